/- Desks: the law. -/
import Derived.Test.YtkdnannepeoioaaEcut
import Derived.Test.YtkdnannepeoioaaCclue
namespace Go.Proofs.Ytkdnannepeoioaa
open Go Go.RowKit
set_option maxRecDepth 10000
set_option linter.unusedSimpArgs false

theorem isDesk_ok (w h : Int) (sq : List (Int × Int × Int)) (v g : Int) (bq : List (Int × Int × Int)) (hn : sq.length ≤ 2 ^ 40) (hm : bq.length ≤ 2 ^ 40) :
    Fn G.P 27 [.agg (dDesk w h sq v g bq)] (.one (aB (goodCutB w h sq && goodCutB v g bq))) := by
  refine fn_of_body (G := G) Try.func27 rfl (by decide) (Nat.le_of_ble_eq_true rfl) ?_
  conv => whnf
  repeat' first
    | (refine draw_mk (by kernel_rfl) ?_; conv => whnf)
    | (refine Br.mk (fun hb => ?_) (fun hb => ?_) <;> conv => whnf)
    | (refine call_sn (by repeat' first | exact snapRow | exact rfl | exact trivial | apply And.intro | omega | (simp; done)) (isCut_ok _ _ _ (by assumption)) ?_; conv => whnf)
    | (refine callP_sn (by repeat' first | exact snapRow | exact rfl | exact trivial | apply And.intro | omega | (simp; done)) (isCut_ok _ _ _ (by assumption)) ?_; conv => whnf)
    | (refine And.intro (by first | decide | omega | (simp at *; omega) | (simp_all; done)) ?_; conv => whnf)
  · simp [resOK_iff, resVs, resCell, refVs, refCV, hb]
  · simp [resOK_iff, resVs, resCell, refVs, refCV, hb]

theorem isDeskLaw_ok (w h : Int) (sq : List (Int × Int × Int)) (v g : Int) (bq : List (Int × Int × Int)) (hn : sq.length ≤ maxLen) (hm : bq.length ≤ maxLen) :
    Fn G.P 7 [.agg (dDesk w h sq v g bq)] (.one (aB true)) := by
  refine fn_of_body (G := G) Try.func7 rfl (by decide) (Nat.le_of_ble_eq_true rfl) ?_
  conv => whnf
  repeat' first
    | (refine draw_mk (by kernel_rfl) ?_; conv => whnf)
    | (refine Br.mk (fun hb => ?_) (fun hb => ?_) <;> conv => whnf)
    | (refine call_sn (by repeat' first | exact snapRow | exact rfl | exact trivial | apply And.intro | omega | (simp; done)) (szDesk_ok _ _ _ _ _ _ (by assumption) (by assumption)) ?_; conv => whnf)
    | (refine callP_sn (by repeat' first | exact snapRow | exact rfl | exact trivial | apply And.intro | omega | (simp; done)) (szDesk_ok _ _ _ _ _ _ (by assumption) (by assumption)) ?_; conv => whnf)
    | (refine And.intro (by first | decide | omega | (simp at *; omega) | (simp_all; done)) ?_; conv => whnf)
  · simp [resOK_iff, resVs, resCell, refVs, refCV]
  have hc : sq.length ≤ 2 ^ 40 ∧ bq.length ≤ 2 ^ 40 := by
    by_cases hc : sq.length ≤ (1048576 : Int)
    · rw [if_pos hc] at hb
      by_cases hd : bq.length ≤ (1048576 : Int) - sq.length
      · omega
      · rw [if_neg hd] at hb; simp at hb
    · rw [if_neg hc] at hb; simp at hb
  obtain ⟨hn2, hm2⟩ := hc
  clear hb hn hm
  repeat' first
    | (refine draw_mk (by kernel_rfl) ?_; conv => whnf)
    | (refine Br.mk (fun hb => ?_) (fun hb => ?_) <;> conv => whnf)
    | (refine call_sn (by repeat' first | exact snapRow | exact rfl | exact trivial | apply And.intro | omega | (simp; done)) (toDesk_ok _ _ _ _ _ _ (by assumption) (by assumption)) ?_; conv => whnf)
    | (refine callP_sn (by repeat' first | exact snapRow | exact rfl | exact trivial | apply And.intro | omega | (simp; done)) (toDesk_ok _ _ _ _ _ _ (by assumption) (by assumption)) ?_; conv => whnf)
    | (refine call_sn (by repeat' first | exact snapRow | exact rfl | exact trivial | apply And.intro | omega | (simp; done)) (specIsDesk_ok _ _ _ _ _ _ (by assumption) (by assumption)) ?_; conv => whnf)
    | (refine callP_sn (by repeat' first | exact snapRow | exact rfl | exact trivial | apply And.intro | omega | (simp; done)) (specIsDesk_ok _ _ _ _ _ _ (by assumption) (by assumption)) ?_; conv => whnf)
    | (refine call_sn (by repeat' first | exact snapRow | exact rfl | exact trivial | apply And.intro | omega | (simp; done)) (isDesk_ok _ _ _ _ _ _ (by assumption) (by assumption)) ?_; conv => whnf)
    | (refine callP_sn (by repeat' first | exact snapRow | exact rfl | exact trivial | apply And.intro | omega | (simp; done)) (isDesk_ok _ _ _ _ _ _ (by assumption) (by assumption)) ?_; conv => whnf)
    | (refine call_sn (by repeat' first | exact snapRow | exact rfl | exact trivial | apply And.intro | omega | (simp; done)) (eqDesk_ok _ _ _ _ _ _ _ _ _ _ _ _ (by assumption) (by assumption)) ?_; conv => whnf)
    | (refine callP_sn (by repeat' first | exact snapRow | exact rfl | exact trivial | apply And.intro | omega | (simp; done)) (eqDesk_ok _ _ _ _ _ _ _ _ _ _ _ _ (by assumption) (by assumption)) ?_; conv => whnf)
    | (refine And.intro (by first | decide | omega | (simp at *; omega) | (simp_all; done)) ?_; conv => whnf)
  all_goals first | (simp_all [resOK_iff, resVs, resCell, resCells, refVs, refCV, refCs]; done) | (simp_all [resOK_iff, resVs, resCell, resCells, refVs, refCV, refCs]; omega)

theorem desk_of_good {w : World} {R : Nat → Prop} {ds : List DC} {us : List Value} (h : Good w R [.int .i64, .int .i64, .slice [.int .i64, .int .i64, .int .i64], .int .i64, .int .i64, .slice [.int .i64, .int .i64, .int .i64]] ds us) :
    ∃ a b, ∃ cl : List (Int × Int × Int), ∃ c d, ∃ bl : List (Int × Int × Int), ds = dDesk a b cl c d bl ∧ cl.length ≤ maxLen ∧ bl.length ≤ maxLen := by
  cases h with | cons h1 _ h2 =>
  cases h2 with | cons h3 _ h4 =>
  cases h4 with | cons h5 _ h6 =>
  cases h6 with | cons h7 _ h8 =>
  cases h8 with | cons h9 _ h10 =>
  cases h10 with | cons h11 _ h12 =>
  cases h12
  cases h1; cases h3; cases h7; cases h9
  cases h5 with | slice _ xs hl hx hh =>
  cases h11 with | slice _ ys hl' hx' hh' =>
  obtain ⟨cl, rfl⟩ := rows3 hx hh
  obtain ⟨bl, rfl⟩ := rows3 hx' hh'
  exact ⟨_, _, cl, _, _, bl, rfl, by simpa using hl, by simpa using hl'⟩

theorem isDeskLaw {W : World} {R : Nat → Prop} (ds : List DC) (hg : ∃ us, Good W R [.int .i64, .int .i64, .slice [.int .i64, .int .i64, .int .i64], .int .i64, .int .i64, .slice [.int .i64, .int .i64, .int .i64]] ds us) : Fn G.P 7 [.agg ds] (.one (aB true)) := by
  obtain ⟨us, hg⟩ := hg
  obtain ⟨a, b, cl, c, d, bl, rfl, hn, hm⟩ := desk_of_good hg
  exact isDeskLaw_ok a b cl c d bl hn hm

end Go.Proofs.Ytkdnannepeoioaa

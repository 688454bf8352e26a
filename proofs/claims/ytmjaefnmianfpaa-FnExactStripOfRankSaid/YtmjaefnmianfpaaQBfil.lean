/- The law on the sides of a strip in the order of filling. -/
import Derived.Test.YtmjaefnmianfpaaQAfil
import Derived.Test.YtmjaefnmianfpaaQZy
import Derived.Test.YtmjaefnmianfpaaQMarky
namespace Go.Proofs.Ytmjaefnmianfpaa
open Go Go.RowKit
set_option maxRecDepth 10000
set_option maxHeartbeats 1000000
set_option linter.unusedSimpArgs false

theorem cloneSq_ok (xs : List (Int × Int × Int)) (hl : xs.length ≤ 2 ^ 20) : Fn G.P 124 [.c (.list 3 (xs.map r3))] (.one (.c (.list 3 (xs.map r3)))) := by
  refine fn_of_body (G := G) Try.func124 rfl (by decide) (Nat.le_of_ble_eq_true rfl) ?_
  conv => whnf
  repeat' first
    | exact True.intro
    | (refine draw_mkF ?_ ?_ ?_; (focus (decide +kernel)); (focus (kernel_rfl)); conv => whnf)
    | (refine Both.mk ?_ ?_ <;> conv => whnf)
    | (refine NilQ.mk (fun hnil => ?_) ?_ <;> conv => whnf)
    | (refine draw_mk (by kernel_rfl) ?_; conv => whnf)
    | (refine Br.mk (fun hb => ?_) (fun hb => ?_) <;> conv => whnf)
    | (refine And.intro ?_ ?_; (focus (first | decide | omega | (simp [contentOK, objRd, objAt, peel, List.length_map]; done) | (simp [contentOK, objRd, objAt, peel, List.length_map]; omega) | (simp [contentOK, objRd, objAt, peel, List.length_map] at *; omega))); conv => whnf)
  · obtain rfl : xs = [] := by simpa using hnil
    exact ⟨⟨rfl, trivial⟩, by simp [refVs, refCV]⟩
  · simp only [List.replicate_zero, List.drop_nil, List.take_nil, List.nil_append, Nat.zero_add]
    exact res_row rfl (by simp) r3_flat

/-- Squares of a cut have places of their own. -/
theorem chk_apart {w h : Int} : ∀ (l pre : List (Int × Int × Int)) (area : Int), cutChk w h pre l area = true → (∀ q ∈ l, 1 ≤ q.2.2) ∧ l.Pairwise (fun a b => ovB b a = false) ∧ ∀ a ∈ pre, ∀ b ∈ l, ovB b a = false
  | [], pre, area, _ => ⟨by simp, List.Pairwise.nil, by simp⟩
  | s :: l, pre, area, hc => by
    simp only [cutChk, Bool.and_eq_true, okB] at hc
    obtain ⟨⟨hp, ho, _⟩, hr⟩ := hc
    obtain ⟨h1, h2, h3⟩ := chk_apart l (pre ++ [s]) _ hr
    have hs : 1 ≤ s.2.2 := by
      simp only [placeB, inB, Bool.and_eq_true, decide_eq_true_eq] at hp; omega
    have ho' : ∀ a ∈ pre, ovB s a = false := by simpa using ho
    refine ⟨?_, List.pairwise_cons.2 ⟨fun b hb => h3 s (by simp) b hb, h2⟩, ?_⟩
    · intro q hq
      rcases List.mem_cons.1 hq with rfl | hq
      · exact hs
      · exact h1 q hq
    · intro a ha b hb
      rcases List.mem_cons.1 hb with rfl | hb
      · exact ho' a ha
      · exact h3 a (by simp [ha]) b hb

theorem good_apart {w h : Int} {sq : List (Int × Int × Int)} (hg : goodCutB w h sq = true) : ∀ a ∈ sq, ∀ b ∈ sq, a.1 = b.1 → a.2.1 = b.2.1 → a = b := by
  simp only [goodCutB, Bool.and_eq_true] at hg
  obtain ⟨h1, h2, _⟩ := chk_apart sq [] 0 hg.2.2.2
  intro a ha b hb e1 e2
  obtain ⟨i, hi, rfl⟩ := List.mem_iff_getElem.1 ha
  obtain ⟨j, hj, rfl⟩ := List.mem_iff_getElem.1 hb
  have key : ∀ i j (hi : i < sq.length) (hj : j < sq.length), i < j → (sq[i]).1 = (sq[j]).1 → (sq[i]).2.1 = (sq[j]).2.1 → False := by
    intro i j hi hj hij e1 e2
    have hp := List.pairwise_iff_getElem.1 h2 i j hi hj hij
    have g1 := h1 _ (List.getElem_mem hi)
    have g2 := h1 _ (List.getElem_mem hj)
    simp only [ovB, Bool.and_eq_false_iff, decide_eq_false_iff_not] at hp
    omega
  rcases Nat.lt_trichotomy i j with h | rfl | h
  · exact (key i j hi hj h e1 e2).elim
  · rfl
  · exact (key j i hj hi h e1.symm e2.symm).elim

theorem small_ok {q : Int × Int × Int} (h : smallSq q) : okSq q := by
  unfold smallSq at h; unfold okSq; omega

/-- In order by X, then by Y: whoever puts them so. -/
theorem sortXY_eq {w h : Int} {sq ys : List (Int × Int × Int)} (hg : goodCutB w h sq = true) (hp : ys.Perm sq) (ha : Asc ltXY ys) : ys = sortI ltXY sq := by
  refine asc_unique (hp.trans (sortI_perm ltXY sq).symm) ha (sortI_asc ltXY_asym ltXY_ntrans sq) fun a hma b hmb h1 h2 => ?_
  refine good_apart hg a (hp.mem_iff.1 hma) b (hp.mem_iff.1 hmb) ?_ ?_
  all_goals
    simp only [ltXY, Bool.or_eq_false_iff, Bool.and_eq_false_imp, decide_eq_false_iff_not, beq_iff_eq] at h1 h2
    omega

def filR (w h : Int) (sq : List (Int × Int × Int)) : List Int × Bool := if wholeB w h sq then ((sortI ltXY sq).map (·.2.2), true) else ([], false)

theorem fillSides_ok (w h : Int) (sq : List (Int × Int × Int)) (hg : goodCutB w h sq = true) : Fn G.P 90 [.agg (dCut w h sq)] (.one (.c (.list 1 (((sortI ltXY sq).map (·.2.2)).map r1)))) := by
  obtain ⟨_, _, _, _, _, _, hlen, hsm⟩ := good_facts hg
  have hclone := cloneSq_ok sq (by omega)
  have hpos : 0 < sq.length := by
    simp only [goodCutB, Bool.and_eq_true, inB, decide_eq_true_eq] at hg; omega
  refine fn_of_body (G := G) Try.func90 rfl (by decide) (Nat.le_of_ble_eq_true rfl) ?_
  conv => whnf
  repeat' first
    | exact True.intro
    | (refine draw_mkF ?_ ?_ ?_; (focus (decide +kernel)); (focus (kernel_rfl)); conv => whnf)
    | (refine Both.mk ?_ ?_ <;> conv => whnf)
    | (refine NilQ.mk (fun hnil => ?_) ?_ <;> conv => whnf)
    | (refine draw_mk (by kernel_rfl) ?_; conv => whnf)
    | (refine Br.mk (fun hb => ?_) (fun hb => ?_) <;> conv => whnf)
    | (refine call_sn ?_ (hclone) ?_; (focus ((repeat' first | exact snapRow | exact snap_row (by simp; done) | exact rfl | exact trivial | apply And.intro | omega | (simp; done)); done)); conv => whnf)
    | (refine callP_sn ?_ (hclone) ?_; (focus ((repeat' first | exact snapRow | exact snap_row (by simp; done) | exact rfl | exact trivial | apply And.intro | omega | (simp; done)); done)); conv => whnf)
    | (refine And.intro ?_ ?_; (focus (first | decide | omega | (simp at *; omega) | (simp_all; done))); conv => whnf)
  refine frameN [1] (sortXY_min sq (fun x hx => small_ok (hsm x hx)) hpos (by omega) sq.length none rfl) rfl (by decide) ⟨rfl, rfl⟩ (by rw [List.length_map]; rfl) ?_
  rintro _ _ ⟨rfl, ys, hp, ha, gs, rfl⟩
  refine ⟨[_], gs, rfl, Nat.le_refl _, rfl, ?_⟩
  conv => whnf
  have hyl : ys.length = sq.length := hp.length_eq
  obtain rfl := sortXY_eq hg hp ha
  have hs := sides_ok (sortI ltXY sq) (by omega)
  have e : (List.map r3 sq).length = (List.map r3 (sortI ltXY sq)).length := by simp [hyl]
  rw [e]
  repeat' first
    | exact True.intro
    | (refine draw_mkF ?_ ?_ ?_; (focus (decide +kernel)); (focus (kernel_rfl)); conv => whnf)
    | (refine Both.mk ?_ ?_ <;> conv => whnf)
    | (refine NilQ.mk (fun hnil => ?_) ?_ <;> conv => whnf)
    | (refine draw_mk (by kernel_rfl) ?_; conv => whnf)
    | (refine Br.mk (fun hb => ?_) (fun hb => ?_) <;> conv => whnf)
    | (refine call_sn ?_ (hs) ?_; (focus ((repeat' first | exact snapRow | exact snap_row (by simp; done) | exact rfl | exact trivial | apply And.intro | omega | (simp; done)); done)); conv => whnf)
    | (refine callP_sn ?_ (hs) ?_; (focus ((repeat' first | exact snapRow | exact snap_row (by simp; done) | exact rfl | exact trivial | apply And.intro | omega | (simp; done)); done)); conv => whnf)
    | (refine And.intro ?_ ?_; (focus (first | decide | omega | (simp at *; omega) | (simp_all; done))); conv => whnf)
  exact res_row rfl (by simp) r1_flat

theorem implFill (w h : Int) (sq : List (Int × Int × Int)) (hn : sq.length ≤ 2 ^ 40) : Fn G.P 40 [.agg (dCut w h sq)] (.tup [.c (.list 1 ((filR w h sq).1.map r1)), aB (filR w h sq).2]) := by
  unfold filR
  by_cases hw : wholeB w h sq = true
  · rw [if_pos hw]
    have hg : goodCutB w h sq = true := by simp only [wholeB, Bool.and_eq_true] at hw; exact hw.1
    have hf := fillSides_ok w h sq hg
    refine fn_of_body (G := G) Try.func40 rfl (by decide) (Nat.le_of_ble_eq_true rfl) ?_
    conv => whnf
    repeat' first
      | exact True.intro
      | (refine draw_mkF ?_ ?_ ?_; (focus (decide +kernel)); (focus (kernel_rfl)); conv => whnf)
      | (refine Both.mk ?_ ?_ <;> conv => whnf)
      | (refine NilQ.mk (fun hnil => ?_) ?_ <;> conv => whnf)
      | (refine draw_mk (by kernel_rfl) ?_; conv => whnf)
      | (refine Br.mk (fun hb => ?_) (fun hb => ?_) <;> conv => whnf)
      | (refine call_sn ?_ (isStrip_ok ?_ ?_ ?_ ?_) ?_; (focus ((repeat' first | exact snapRow | exact snap_row (by simp; done) | exact rfl | exact trivial | apply And.intro | omega | (simp; done)); done)); assumption; conv => whnf)
      | (refine callP_sn ?_ (isStrip_ok ?_ ?_ ?_ ?_) ?_; (focus ((repeat' first | exact snapRow | exact snap_row (by simp; done) | exact rfl | exact trivial | apply And.intro | omega | (simp; done)); done)); assumption; conv => whnf)
      | (refine call_sn ?_ (hf) ?_; (focus ((repeat' first | exact snapRow | exact snap_row (by simp; done) | exact rfl | exact trivial | apply And.intro | omega | (simp; done)); done)); conv => whnf)
      | (refine callP_sn ?_ (hf) ?_; (focus ((repeat' first | exact snapRow | exact snap_row (by simp; done) | exact rfl | exact trivial | apply And.intro | omega | (simp; done)); done)); conv => whnf)
      | (refine And.intro ?_ ?_; (focus (first | decide | omega | (simp at *; omega) | (simp_all; done))); conv => whnf)
    · simp [hw] at hb
    · exact ⟨⟨res_cell (by simp [objAt]) (by simp) r1_flat, rfl, trivial⟩, by simp [refVs, refCV]⟩
  · rw [if_neg hw]
    refine fn_of_body (G := G) Try.func40 rfl (by decide) (Nat.le_of_ble_eq_true rfl) ?_
    conv => whnf
    repeat' first
      | exact True.intro
      | (refine draw_mkF ?_ ?_ ?_; (focus (decide +kernel)); (focus (kernel_rfl)); conv => whnf)
      | (refine Both.mk ?_ ?_ <;> conv => whnf)
      | (refine NilQ.mk (fun hnil => ?_) ?_ <;> conv => whnf)
      | (refine draw_mk (by kernel_rfl) ?_; conv => whnf)
      | (refine Br.mk (fun hb => ?_) (fun hb => ?_) <;> conv => whnf)
      | (refine call_sn ?_ (isStrip_ok ?_ ?_ ?_ ?_) ?_; (focus ((repeat' first | exact snapRow | exact snap_row (by simp; done) | exact rfl | exact trivial | apply And.intro | omega | (simp; done)); done)); assumption; conv => whnf)
      | (refine callP_sn ?_ (isStrip_ok ?_ ?_ ?_ ?_) ?_; (focus ((repeat' first | exact snapRow | exact snap_row (by simp; done) | exact rfl | exact trivial | apply And.intro | omega | (simp; done)); done)); assumption; conv => whnf)
    · exact ⟨⟨rfl, rfl, trivial⟩, by simp [refVs, refCV]⟩
    all_goals (exfalso; simp_all)

theorem specFill (w h : Int) (sq : List (Int × Int × Int)) (hn : sq.length ≤ 2 ^ 40) : Fn G.P 38 [.agg (dCut w h sq)] (.tup [.c (.list 1 ((filR w h sq).1.map r1)), aB (filR w h sq).2]) := by
  unfold filR
  by_cases hw : wholeB w h sq = true
  · rw [if_pos hw]
    have hg : goodCutB w h sq = true := by simp only [wholeB, Bool.and_eq_true] at hw; exact hw.1
    obtain ⟨_, _, _, _, _, _, hlen, hsm⟩ := good_facts hg
    have hf := stSides_ok w h sq (by omega)
    refine fn_of_body (G := G) Try.func38 rfl (by decide) (Nat.le_of_ble_eq_true rfl) ?_
    conv => whnf
    repeat' first
      | exact True.intro
      | (refine draw_mkF ?_ ?_ ?_; (focus (decide +kernel)); (focus (kernel_rfl)); conv => whnf)
      | (refine Both.mk ?_ ?_ <;> conv => whnf)
      | (refine NilQ.mk (fun hnil => ?_) ?_ <;> conv => whnf)
      | (refine draw_mk (by kernel_rfl) ?_; conv => whnf)
      | (refine Br.mk (fun hb => ?_) (fun hb => ?_) <;> conv => whnf)
      | (refine call_sn ?_ (stGood_ok ?_ ?_ ?_ ?_) ?_; (focus ((repeat' first | exact snapRow | exact snap_row (by simp; done) | exact rfl | exact trivial | apply And.intro | omega | (simp; done)); done)); assumption; conv => whnf)
      | (refine callP_sn ?_ (stGood_ok ?_ ?_ ?_ ?_) ?_; (focus ((repeat' first | exact snapRow | exact snap_row (by simp; done) | exact rfl | exact trivial | apply And.intro | omega | (simp; done)); done)); assumption; conv => whnf)
      | (refine call_sn ?_ (hf) ?_; (focus ((repeat' first | exact snapRow | exact snap_row (by simp; done) | exact rfl | exact trivial | apply And.intro | omega | (simp; done)); done)); conv => whnf)
      | (refine callP_sn ?_ (hf) ?_; (focus ((repeat' first | exact snapRow | exact snap_row (by simp; done) | exact rfl | exact trivial | apply And.intro | omega | (simp; done)); done)); conv => whnf)
      | (refine And.intro ?_ ?_; (focus (first | decide | omega | (simp at *; omega) | (simp_all; done))); conv => whnf)
    · simp [hw] at hb
    · exact ⟨⟨res_cell (by simp [objAt]) (by simp) r1_flat, rfl, trivial⟩, by simp [refVs, refCV]⟩
  · rw [if_neg hw]
    refine fn_of_body (G := G) Try.func38 rfl (by decide) (Nat.le_of_ble_eq_true rfl) ?_
    conv => whnf
    repeat' first
      | exact True.intro
      | (refine draw_mkF ?_ ?_ ?_; (focus (decide +kernel)); (focus (kernel_rfl)); conv => whnf)
      | (refine Both.mk ?_ ?_ <;> conv => whnf)
      | (refine NilQ.mk (fun hnil => ?_) ?_ <;> conv => whnf)
      | (refine draw_mk (by kernel_rfl) ?_; conv => whnf)
      | (refine Br.mk (fun hb => ?_) (fun hb => ?_) <;> conv => whnf)
      | (refine call_sn ?_ (stGood_ok ?_ ?_ ?_ ?_) ?_; (focus ((repeat' first | exact snapRow | exact snap_row (by simp; done) | exact rfl | exact trivial | apply And.intro | omega | (simp; done)); done)); assumption; conv => whnf)
      | (refine callP_sn ?_ (stGood_ok ?_ ?_ ?_ ?_) ?_; (focus ((repeat' first | exact snapRow | exact snap_row (by simp; done) | exact rfl | exact trivial | apply And.intro | omega | (simp; done)); done)); assumption; conv => whnf)
    · exact ⟨⟨rfl, rfl, trivial⟩, by simp [refVs, refCV]⟩
    all_goals (exfalso; simp_all)

theorem filR_len {w h : Int} {sq : List (Int × Int × Int)} (hn : sq.length ≤ 2 ^ 20) : (filR w h sq).1.length ≤ 2 ^ 20 := by
  unfold filR
  split
  · simp [sortI_len]; omega
  · simp

theorem filLaw_ok (w h : Int) (sq : List (Int × Int × Int)) (hn : sq.length ≤ maxLen) : Fn G.P 5 [.agg (dCut w h sq)] (.one (aB true)) := by
  have hs := fun hn => specFill w h sq hn
  have hi := fun hn => implFill w h sq hn
  have hl := filR_len (w := w) (h := h) (sq := sq)
  generalize filR w h sq = r at hs hi hl
  obtain ⟨RR, t⟩ := r
  dsimp only at hs hi hl
  have hl0 : (0 : Int) ≤ 1048576 ∧ (1048576 : Int) ≤ 1048576 := by omega
  refine fn_of_body (G := G) Try.func5 rfl (by decide) (Nat.le_of_ble_eq_true rfl) ?_
  conv => whnf
  repeat' first
    | exact True.intro
    | (refine Both.mk ?_ ?_ <;> conv => whnf)
    | (refine NilQ.mk (fun hnil => ?_) ?_ <;> conv => whnf)
    | (refine Br.mk (fun hb => ?_) (fun hb => ?_) <;> conv => whnf)
    | (refine call_sn ?_ (szCut_ok ?_ ?_ ?_ ?_ ?_ ?_) ?_; (focus ((repeat' first | exact snapRow | exact snap_row (by simp; done) | exact rfl | exact trivial | apply And.intro | omega | (simp; done)); done)); assumption; assumption; conv => whnf)
    | (refine callP_sn ?_ (szCut_ok ?_ ?_ ?_ ?_ ?_ ?_) ?_; (focus ((repeat' first | exact snapRow | exact snap_row (by simp; done) | exact rfl | exact trivial | apply And.intro | omega | (simp; done)); done)); assumption; assumption; conv => whnf)
    | (refine And.intro ?_ ?_; (focus (first | decide | omega | (simp at *; omega) | (simp_all; done))); conv => whnf)
  · exact ⟨⟨rfl, trivial⟩, by simp [refVs, refCV]⟩
  have hn1 : sq.length ≤ 2 ^ 20 := by
    by_cases hc : sq.length ≤ (1048576 : Int)
    · omega
    · simp [hc] at hb
  clear hb hn
  have hn2 : sq.length ≤ 2 ^ 40 := by omega
  have hs := hs hn2
  have hi := hi hn2
  have hl := hl hn1
  have hl2 : RR.length ≤ 2 ^ 40 := by omega
  have heq := eqIntS_ok RR hl2
  have heq0 := eqCut_ok w h sq w h sq hn2
  repeat' first
    | exact True.intro
    | (refine Both.mk ?_ ?_ <;> conv => whnf)
    | (refine NilQ.mk (fun hnil => ?_) ?_ <;> conv => whnf)
    | ((fail_if_success (refine draw_mkF ?_ ?_ ?_; (focus (decide +kernel)))); refine draw_mk (by kernel_rfl) ?_; conv => whnf)
    | (refine Br.mk (fun hb => ?_) (fun hb => ?_) <;> conv => whnf)
    | (refine call_sn ?_ (toCut_ok ?_ ?_ ?_ ?_) ?_; (focus ((repeat' first | exact snapRow | exact snap_row (by simp; done) | exact rfl | exact trivial | apply And.intro | omega | (simp; done)); done)); assumption; conv => whnf)
    | (refine callP_sn ?_ (toCut_ok ?_ ?_ ?_ ?_) ?_; (focus ((repeat' first | exact snapRow | exact snap_row (by simp; done) | exact rfl | exact trivial | apply And.intro | omega | (simp; done)); done)); assumption; conv => whnf)
    | (refine call_sn ?_ (hs) ?_; (focus ((repeat' first | exact snapRow | exact snap_row (by simp; done) | exact rfl | exact trivial | apply And.intro | omega | (simp; done)); done)); conv => whnf)
    | (refine callP_sn ?_ (hs) ?_; (focus ((repeat' first | exact snapRow | exact snap_row (by simp; done) | exact rfl | exact trivial | apply And.intro | omega | (simp; done)); done)); conv => whnf)
    | (refine call_sn ?_ (hi) ?_; (focus ((repeat' first | exact snapRow | exact snap_row (by simp; done) | exact rfl | exact trivial | apply And.intro | omega | (simp; done)); done)); conv => whnf)
    | (refine callP_sn ?_ (hi) ?_; (focus ((repeat' first | exact snapRow | exact snap_row (by simp; done) | exact rfl | exact trivial | apply And.intro | omega | (simp; done)); done)); conv => whnf)
    | (refine call_sn ?_ (heq) ?_; (focus ((repeat' first | exact snapRow | exact snap_row (by simp; done) | exact rfl | exact trivial | apply And.intro | omega | (simp; done)); done)); conv => whnf)
    | (refine callP_sn ?_ (heq) ?_; (focus ((repeat' first | exact snapRow | exact snap_row (by simp; done) | exact rfl | exact trivial | apply And.intro | omega | (simp; done)); done)); conv => whnf)
    | (refine call_sn ?_ (heq0) ?_; (focus ((repeat' first | exact snapRow | exact snap_row (by simp; done) | exact rfl | exact trivial | apply And.intro | omega | (simp; done)); done)); conv => whnf)
    | (refine callP_sn ?_ (heq0) ?_; (focus ((repeat' first | exact snapRow | exact snap_row (by simp; done) | exact rfl | exact trivial | apply And.intro | omega | (simp; done)); done)); conv => whnf)
    | (refine markCut_x rfl rfl ?_ ?_ ?_ ?_; iterate 3 (focus (first | exact rfl | decide | omega | (simp; done) | (simp; omega) | (constructor <;> omega))); conv => whnf)
    | (refine heldCut_x rfl ?_ ?_ ?_ ?_; iterate 3 (focus (first | exact rfl | decide | omega | (simp; done) | (simp; omega) | (constructor <;> omega))); conv => whnf)
    | (refine markIntS_y rfl rfl ?_ ?_ ?_ ?_; iterate 3 (focus (first | exact rfl | decide | omega | (simp; done) | (simp; omega) | (constructor <;> omega))); conv => whnf)
    | (refine heldIntS_y rfl ?_ ?_ ?_ ?_; iterate 3 (focus (first | exact rfl | decide | omega | (simp; done) | (simp; omega) | (constructor <;> omega))); conv => whnf)
    | (refine And.intro ?_ ?_; (focus (first | decide | omega | (simp at *; omega) | (simp_all; done))); conv => whnf)
  all_goals first | (exfalso; simp at hb; done) | (exfalso; simp at hb; omega) | skip
  exact ⟨⟨rfl, trivial⟩, by simp [refVs, refCV]⟩

theorem filLaw {W : World} {R : Nat → Prop} (ds : List DC) (hg : ∃ us, Good W R [.int .i64, .int .i64, .slice [.int .i64, .int .i64, .int .i64]] ds us) : Fn G.P 5 [.agg ds] (.one (aB true)) := by
  obtain ⟨us, hg⟩ := hg
  obtain ⟨w, h, sq, rfl, hn⟩ := cut_of_good hg
  exact filLaw_ok w h sq hn

end Go.Proofs.Ytmjaefnmianfpaa

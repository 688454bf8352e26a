/- The law on the sides of a strip in the order of filling. -/
import Derived.Test.YtmfdkjjhdjkgpaaQAfil
import Derived.Test.YtmfdkjjhdjkgpaaQZy
import Derived.Test.YtmfdkjjhdjkgpaaQMarky
namespace Go.Proofs.Ytmfdkjjhdjkgpaa
open Go Go.RowKit
set_option maxRecDepth 10000
set_option maxHeartbeats 1000000
set_option linter.unusedSimpArgs false

theorem cloneSq_ok (xs : List (Int × Int × Int)) (hl : xs.length ≤ 2 ^ 20) : Fn G.P 146 [.c (.list 3 (xs.map r3))] (.one (.c (.list 3 (xs.map r3)))) := by
  refine fn_of_body (G := G) Try.func146 rfl (by decide) (Nat.le_of_ble_eq_true rfl) ?_
  conv => whnf
  repeat' first
    | exact True.intro
    | (refine draw_mkF ?_ ?_ ?_; (focus (decide +kernel)); (focus (kernel_rfl)); conv => whnf)
    | (refine Both.mk ?_ ?_ <;> conv => whnf)
    | (refine OwnQ.own ?_; conv => whnf)
    | (refine NilQ.mk (fun hnil => ?_) ?_ <;> conv => whnf)
    | (refine draw_mk (by kernel_rfl) ?_; conv => whnf)
    | (refine Br.mk (fun hb => ?_) (fun hb => ?_) <;> conv => whnf)
    | (refine And.intro ?_ ?_; (focus (first | decide | omega | (simp [contentOK, objRd, objAt, peel, List.length_map]; done) | (simp [contentOK, objRd, objAt, peel, List.length_map]; omega) | (simp [contentOK, objRd, objAt, peel, List.length_map] at *; omega))); conv => whnf)
  · obtain rfl : xs = [] := by simpa using hnil
    exact ⟨⟨rfl, trivial⟩, by simp [refVs, refCV]⟩
  · simp only [List.replicate_zero, List.drop_nil, List.take_nil, List.nil_append, Nat.zero_add]
    exact res_row rfl (by simp) r3_flat

/-- Squares of a cut have places of their own. -/
theorem chk_apart {w h : Int} : ∀ (l pre : List (Int × Int × Int)) (area : Int), cutChk w h pre l area = true → (∀ q ∈ l, 1 ≤ q.2.2) ∧ l.Pairwise (fun a b => ovB b a = false) ∧ ∀ a ∈ pre, ∀ b ∈ l, ovB b a = false
  | [], pre, area, _ => ⟨by simp, List.Pairwise.nil, by simp⟩
  | s :: l, pre, area, hc => by
    simp only [cutChk, Bool.and_eq_true, okB] at hc
    obtain ⟨⟨hp, ho, _⟩, hr⟩ := hc
    obtain ⟨h1, h2, h3⟩ := chk_apart l (pre ++ [s]) _ hr
    have hs : 1 ≤ s.2.2 := by
      simp only [placeB, inB, Bool.and_eq_true, decide_eq_true_eq] at hp; omega
    have ho' : ∀ a ∈ pre, ovB s a = false := by simpa using ho
    refine ⟨?_, List.pairwise_cons.2 ⟨fun b hb => h3 s (by simp) b hb, h2⟩, ?_⟩
    · intro q hq
      rcases List.mem_cons.1 hq with rfl | hq
      · exact hs
      · exact h1 q hq
    · intro a ha b hb
      rcases List.mem_cons.1 hb with rfl | hb
      · exact ho' a ha
      · exact h3 a (by simp [ha]) b hb

theorem good_apart {w h : Int} {sq : List (Int × Int × Int)} (hg : goodCutB w h sq = true) : ∀ a ∈ sq, ∀ b ∈ sq, a.1 = b.1 → a.2.1 = b.2.1 → a = b := by
  simp only [goodCutB, Bool.and_eq_true] at hg
  obtain ⟨h1, h2, _⟩ := chk_apart sq [] 0 hg.2.2.2
  intro a ha b hb e1 e2
  obtain ⟨i, hi, rfl⟩ := List.mem_iff_getElem.1 ha
  obtain ⟨j, hj, rfl⟩ := List.mem_iff_getElem.1 hb
  have key : ∀ i j (hi : i < sq.length) (hj : j < sq.length), i < j → (sq[i]).1 = (sq[j]).1 → (sq[i]).2.1 = (sq[j]).2.1 → False := by
    intro i j hi hj hij e1 e2
    have hp := List.pairwise_iff_getElem.1 h2 i j hi hj hij
    have g1 := h1 _ (List.getElem_mem hi)
    have g2 := h1 _ (List.getElem_mem hj)
    simp only [ovB, Bool.and_eq_false_iff, decide_eq_false_iff_not] at hp
    omega
  rcases Nat.lt_trichotomy i j with h | rfl | h
  · exact (key i j hi hj h e1 e2).elim
  · rfl
  · exact (key j i hj hi h e1.symm e2.symm).elim

end Go.Proofs.Ytmfdkjjhdjkgpaa

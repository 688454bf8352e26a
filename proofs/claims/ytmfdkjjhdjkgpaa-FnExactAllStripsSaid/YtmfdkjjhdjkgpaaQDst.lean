/- Strips: the program's next and put4, by states. -/
import Derived.Test.YtmfdkjjhdjkgpaaQQs
import Derived.Test.YtmfdkjjhdjkgpaaQZi
import Derived.Test.YtmfdkjjhdjkgpaaQAclue
namespace Go.Proofs.Ytmfdkjjhdjkgpaa
open Go Go.RowKit
set_option maxRecDepth 10000
set_option linter.unusedSimpArgs false

theorem put4_x {a b c d y side a' b' c' d' : Nat} (hs : 1 ≤ side) (hy : y + side ≤ 4) (hsm : ∀ i, [a, b, c, d].getD i 0 ≤ 34) (he : putR [a, b, c, d] y side = [a', b', c', d']) :
    Fn G.P 94 [.agg [dI a, dI b, dI c, dI d], aI y, aI side] (.one (.agg [dI a', dI b', dI c', dI d'])) := by
  have ha : (0 : Int) ≤ a ∧ (a : Int) ≤ 100 := by have := hsm 0; simp at this; omega
  have hb : (0 : Int) ≤ b ∧ (b : Int) ≤ 100 := by have := hsm 1; simp at this; omega
  have hc : (0 : Int) ≤ c ∧ (c : Int) ≤ 100 := by have := hsm 2; simp at this; omega
  have hd : (0 : Int) ≤ d ∧ (d : Int) ≤ 100 := by have := hsm 3; simp at this; omega
  have hcase : (y = 0 ∧ side = 1) ∨ (y = 0 ∧ side = 2) ∨ (y = 0 ∧ side = 3) ∨ (y = 0 ∧ side = 4) ∨ (y = 1 ∧ side = 1) ∨ (y = 1 ∧ side = 2) ∨ (y = 1 ∧ side = 3) ∨ (y = 2 ∧ side = 1) ∨ (y = 2 ∧ side = 2) ∨ (y = 3 ∧ side = 1) := by omega
  simp only [putR, List.range, List.range.loop, List.map_cons, List.map_nil, List.getD_cons_zero, List.getD_cons_succ, List.cons.injEq, and_true] at he
  obtain ⟨rfl, rfl, rfl, rfl⟩ := he
  rcases hcase with ⟨rfl, rfl⟩ | ⟨rfl, rfl⟩ | ⟨rfl, rfl⟩ | ⟨rfl, rfl⟩ | ⟨rfl, rfl⟩ | ⟨rfl, rfl⟩ | ⟨rfl, rfl⟩ | ⟨rfl, rfl⟩ | ⟨rfl, rfl⟩ | ⟨rfl, rfl⟩
  · exact put4_01 a b c d ha hb hc hd
  · exact put4_02 a b c d ha hb hc hd
  · exact put4_03 a b c d ha hb hc hd
  · exact put4_04 a b c d ha hb hc hd
  · exact put4_11 a b c d ha hb hc hd
  · exact put4_12 a b c d ha hb hc hd
  · exact put4_13 a b c d ha hb hc hd
  · exact put4_21 a b c d ha hb hc hd
  · exact put4_22 a b c d ha hb hc hd
  · exact put4_31 a b c d ha hb hc hd

theorem next_x {h l X st y a b c d : Nat} (es : List (List Int × DV)) (hh : h < 5) (hat : At h l X st [a, b, c, d]) (hy : freeS h st = some y) (hX : X ≤ 34) :
    CallX G.P 93 [.agg [.d (dI h), .d (dI l), .mp 0 0], .agg [.d (dI a), .d (dI b), .d (dI c), .d (dI d)]] [(0, .map 4 es)]
      (fun sv objs1 => sv = .tup [.c (vI X), .c (vI y), .c (vI (mst h l X [a, b, c, d] y))] ∧ ∃ gs, objs1 = (0, .map 4 es) :: gs) := by
  obtain ⟨y1, y2, y3⟩ := freeS_spec hy
  have hXi : (0 : Int) ≤ X ∧ (X : Int) ≤ 100 := by omega
  have hcase : (h = 1 ∧ y = 0) ∨ (h = 2 ∧ y = 0) ∨ (h = 2 ∧ y = 1) ∨ (h = 3 ∧ y = 0) ∨ (h = 3 ∧ y = 1) ∨ (h = 3 ∧ y = 2) ∨ (h = 4 ∧ y = 0) ∨ (h = 4 ∧ y = 1) ∨ (h = 4 ∧ y = 2) ∨ (h = 4 ∧ y = 3) := by omega
  rcases hcase with ⟨rfl, rfl⟩ | ⟨rfl, rfl⟩ | ⟨rfl, rfl⟩ | ⟨rfl, rfl⟩ | ⟨rfl, rfl⟩ | ⟨rfl, rfl⟩ | ⟨rfl, rfl⟩ | ⟨rfl, rfl⟩ | ⟨rfl, rfl⟩ | ⟨rfl, rfl⟩
  · have r0 : a = X + dg st 0 := hat.row 0 (by omega)
    refine next_10 es l a b c d X hXi ?_ ?_
    · simp only [minL, List.foldl_cons, List.foldl_nil]
      (repeat' split) <;> omega
    · simp only [idxL, List.findIdx?_cons]
      rw [if_pos (by simp; omega)]
      rfl
  · have r0 : a = X + dg st 0 := hat.row 0 (by omega)
    have r1 : b = X + dg st 1 := hat.row 1 (by omega)
    refine next_20 es l a b c d X hXi ?_ ?_
    · simp only [minL, List.foldl_cons, List.foldl_nil]
      (repeat' split) <;> omega
    · simp only [idxL, List.findIdx?_cons]
      rw [if_pos (by simp; omega)]
      rfl
  · have r0 : a = X + dg st 0 := hat.row 0 (by omega)
    have r1 : b = X + dg st 1 := hat.row 1 (by omega)
    have z0 := y3 0 (by omega)
    refine next_21 es l a b c d X hXi ?_ ?_
    · simp only [minL, List.foldl_cons, List.foldl_nil]
      (repeat' split) <;> omega
    · simp only [idxL, List.findIdx?_cons]
      rw [if_neg (by simp; omega)]
      rw [if_pos (by simp; omega)]
      rfl
  · have r0 : a = X + dg st 0 := hat.row 0 (by omega)
    have r1 : b = X + dg st 1 := hat.row 1 (by omega)
    have r2 : c = X + dg st 2 := hat.row 2 (by omega)
    refine next_30 es l a b c d X hXi ?_ ?_
    · simp only [minL, List.foldl_cons, List.foldl_nil]
      (repeat' split) <;> omega
    · simp only [idxL, List.findIdx?_cons]
      rw [if_pos (by simp; omega)]
      rfl
  · have r0 : a = X + dg st 0 := hat.row 0 (by omega)
    have r1 : b = X + dg st 1 := hat.row 1 (by omega)
    have r2 : c = X + dg st 2 := hat.row 2 (by omega)
    have z0 := y3 0 (by omega)
    refine next_31 es l a b c d X hXi ?_ ?_
    · simp only [minL, List.foldl_cons, List.foldl_nil]
      (repeat' split) <;> omega
    · simp only [idxL, List.findIdx?_cons]
      rw [if_neg (by simp; omega)]
      rw [if_pos (by simp; omega)]
      rfl
  · have r0 : a = X + dg st 0 := hat.row 0 (by omega)
    have r1 : b = X + dg st 1 := hat.row 1 (by omega)
    have r2 : c = X + dg st 2 := hat.row 2 (by omega)
    have z0 := y3 0 (by omega)
    have z1 := y3 1 (by omega)
    refine next_32 es l a b c d X hXi ?_ ?_
    · simp only [minL, List.foldl_cons, List.foldl_nil]
      (repeat' split) <;> omega
    · simp only [idxL, List.findIdx?_cons]
      rw [if_neg (by simp; omega)]
      rw [if_neg (by simp; omega)]
      rw [if_pos (by simp; omega)]
      rfl
  · have r0 : a = X + dg st 0 := hat.row 0 (by omega)
    have r1 : b = X + dg st 1 := hat.row 1 (by omega)
    have r2 : c = X + dg st 2 := hat.row 2 (by omega)
    have r3 : d = X + dg st 3 := hat.row 3 (by omega)
    refine next_40 es l a b c d X hXi ?_ ?_
    · simp only [minL, List.foldl_cons, List.foldl_nil]
      (repeat' split) <;> omega
    · simp only [idxL, List.findIdx?_cons]
      rw [if_pos (by simp; omega)]
      rfl
  · have r0 : a = X + dg st 0 := hat.row 0 (by omega)
    have r1 : b = X + dg st 1 := hat.row 1 (by omega)
    have r2 : c = X + dg st 2 := hat.row 2 (by omega)
    have r3 : d = X + dg st 3 := hat.row 3 (by omega)
    have z0 := y3 0 (by omega)
    refine next_41 es l a b c d X hXi ?_ ?_
    · simp only [minL, List.foldl_cons, List.foldl_nil]
      (repeat' split) <;> omega
    · simp only [idxL, List.findIdx?_cons]
      rw [if_neg (by simp; omega)]
      rw [if_pos (by simp; omega)]
      rfl
  · have r0 : a = X + dg st 0 := hat.row 0 (by omega)
    have r1 : b = X + dg st 1 := hat.row 1 (by omega)
    have r2 : c = X + dg st 2 := hat.row 2 (by omega)
    have r3 : d = X + dg st 3 := hat.row 3 (by omega)
    have z0 := y3 0 (by omega)
    have z1 := y3 1 (by omega)
    refine next_42 es l a b c d X hXi ?_ ?_
    · simp only [minL, List.foldl_cons, List.foldl_nil]
      (repeat' split) <;> omega
    · simp only [idxL, List.findIdx?_cons]
      rw [if_neg (by simp; omega)]
      rw [if_neg (by simp; omega)]
      rw [if_pos (by simp; omega)]
      rfl
  · have r0 : a = X + dg st 0 := hat.row 0 (by omega)
    have r1 : b = X + dg st 1 := hat.row 1 (by omega)
    have r2 : c = X + dg st 2 := hat.row 2 (by omega)
    have r3 : d = X + dg st 3 := hat.row 3 (by omega)
    have z0 := y3 0 (by omega)
    have z1 := y3 1 (by omega)
    have z2 := y3 2 (by omega)
    refine next_43 es l a b c d X hXi ?_ ?_
    · simp only [minL, List.foldl_cons, List.foldl_nil]
      (repeat' split) <;> omega
    · simp only [idxL, List.findIdx?_cons]
      rw [if_neg (by simp; omega)]
      rw [if_neg (by simp; omega)]
      rw [if_neg (by simp; omega)]
      rw [if_pos (by simp; omega)]
      rfl

end Go.Proofs.Ytmfdkjjhdjkgpaa

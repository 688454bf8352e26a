/- Puzzles that a law marks among others, and looks at again. -/
import Derived.Test.YtmfdkjjhdjkgpaaQMarkc
namespace Go.Proofs.Ytmfdkjjhdjkgpaa
open Go Go.RowKit
set_option maxRecDepth 10000
set_option linter.unusedSimpArgs false

/-- A puzzle that lies among others is marked. -/
theorem markPuzzle_x {objs : Objs} {o n : Nat} {cap : Option Nat} {ys : List (List DC)} {xs : List (Int × Int × Int)} {w h k : Int} {K : SV → Objs → Prop} (hob : objs[o]? = some (0, .arr 3 ys)) (hy : ys = xs.map r3) (hn : n = xs.length) (hl : xs.length ≤ 2 ^ 40) (hk : 0 ≤ k ∧ k ≤ 2 ^ 40)
    (hK : K (.one (.c (vI (k + 3 * xs.length)))) (objs.set o (0, .arr 3 ((mk3 k xs.length).map r3)))) : CallX G.P 26 [.agg [.d (dI w), .d (dI h), .sl o 0 3 0 n cap], .c (vI k)] objs K := by
  subst hy hn
  have hlt : o < objs.length := by rcases Nat.lt_or_ge o objs.length with h2 | h2; exact h2; rw [List.getElem?_eq_none h2] at hob; cases hob
  refine frameN [o] (markPuzzle_min (cap := cap) hl hk) rfl (by simp) ⟨hob, rfl⟩ rfl ?_
  rintro _ _ ⟨rfl, gs, rfl⟩
  refine ⟨[_], gs, rfl, Nat.le_refl _, rfl, ?_⟩
  show K _ (objs.set o _ ++ [])
  rw [List.append_nil]
  exact hK

theorem heldPuzzle_x {objs : Objs} {o n m : Nat} {cap : Option Nat} {w h k : Int} {K : SV → Objs → Prop} (hob : objRd objs o 0 = some (.arr 3 ((mk3 k n).map r3))) (hn : m = n) (hl : n ≤ 2 ^ 30) (hk : 0 ≤ k ∧ k ≤ 2 ^ 30)
    (hK : K (.one (.c (vI (k + 3 * n)))) objs) : CallX G.P 27 [.agg [.d (dI w), .d (dI h), .sl o 0 3 0 m cap], .c (vI k)] objs K := by
  subst hn
  refine call_fn (heldPuzzle_ok w h m k hl hk) ⟨⟨rfl, rfl, ?_, trivial⟩, rfl, trivial⟩ (by show K _ (objs ++ []); rw [List.append_nil]; exact hK)
  rw [snapC_sl, hob]
  refine ⟨rfl, rfl, by decide, by simp [mk3_len], ?_⟩
  rw [List.drop_zero, List.take_of_length_le (by simp [mk3_len])]

end Go.Proofs.Ytmfdkjjhdjkgpaa

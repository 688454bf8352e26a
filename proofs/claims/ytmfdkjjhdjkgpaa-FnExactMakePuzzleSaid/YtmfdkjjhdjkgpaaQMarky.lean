/- Cuts and numbers that a law marks among others, and looks at again. -/
import Derived.Test.YtmfdkjjhdjkgpaaQZh
import Derived.Test.YtmfdkjjhdjkgpaaQAdesk
import Derived.Test.YtmfdkjjhdjkgpaaQZi
import Derived.Test.YtmfdkjjhdjkgpaaQZf
namespace Go.Proofs.Ytmfdkjjhdjkgpaa
open Go Go.RowKit
set_option maxRecDepth 10000
set_option linter.unusedSimpArgs false

theorem markCut_min {cap : Option Nat} {xs : List (Int × Int × Int)} {w h k : Int} (hl : xs.length ≤ 2 ^ 40) (hk : 0 ≤ k ∧ k ≤ 2 ^ 40) :
    CallX G.P 25 [.agg [.d (dI w), .d (dI h), .sl 0 0 3 0 xs.length cap], .c (vI k)] [(0, .arr 3 (xs.map r3))] (fun sv objs' => sv = .one (.c (vI (k + 3 * xs.length))) ∧ ∃ gs, objs' = (0, .arr 3 ((mk3 k xs.length).map r3)) :: gs) := by
  refine call_body (G := G) Try.func25 rfl (by decide) (Nat.le_of_ble_eq_true rfl) ?_
  conv => whnf
  refine frameN [0] (markSquareS_min (cap := cap) hl hk) rfl (by decide) ⟨rfl, rfl⟩ rfl ?_
  rintro _ _ ⟨rfl, gs, rfl⟩
  refine ⟨[_], gs, rfl, Nat.le_refl _, rfl, ?_⟩
  conv => whnf
  exact ⟨rfl, _, rfl⟩

theorem markCut_x {objs : Objs} {o n : Nat} {cap : Option Nat} {ys : List (List DC)} {xs : List (Int × Int × Int)} {w h k : Int} {K : SV → Objs → Prop} (hob : objs[o]? = some (0, .arr 3 ys)) (hy : ys = xs.map r3) (hn : n = xs.length) (hl : xs.length ≤ 2 ^ 40) (hk : 0 ≤ k ∧ k ≤ 2 ^ 40)
    (hK : K (.one (.c (vI (k + 3 * xs.length)))) (objs.set o (0, .arr 3 ((mk3 k xs.length).map r3)))) : CallX G.P 25 [.agg [.d (dI w), .d (dI h), .sl o 0 3 0 n cap], .c (vI k)] objs K := by
  subst hy hn
  refine frameN [o] (markCut_min (cap := cap) hl hk) rfl (by simp) ⟨hob, rfl⟩ rfl ?_
  rintro _ _ ⟨rfl, gs, rfl⟩
  refine ⟨[_], gs, rfl, Nat.le_refl _, rfl, ?_⟩
  show K _ (objs.set o _ ++ [])
  rw [List.append_nil]
  exact hK

end Go.Proofs.Ytmfdkjjhdjkgpaa

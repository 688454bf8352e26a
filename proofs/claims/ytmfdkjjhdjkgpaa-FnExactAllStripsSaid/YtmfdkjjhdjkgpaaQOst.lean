/- Strips: those with a line down at a place. -/
import Derived.Test.YtmfdkjjhdjkgpaaQNst
namespace Go.Proofs.Ytmfdkjjhdjkgpaa
open Go Go.RowKit
set_option maxRecDepth 10000
set_option linter.unusedSimpArgs false

/-- The reference's table, made beside whatever there is. -/
theorem ways_c {h L wo : Nat} {objs : Objs} {K : SV → Objs → Prop} (hh : 1 ≤ h ∧ h < 5) (hL : L ≤ 30)
    (hK : ∀ T, TabL h L T → GoodT h wo T → K (.one (.c (.sl objs.length 0 1 0 (L + 1) (some (L + 1))))) (objs ++ [(0, .grid 1 (gx T))])) : CallX G.P 83 [.c (vI h), .c (vI L), .c (vI wo)] objs K := by
  refine callX_lift (stWays_x (wo := wo) hh hL) rfl ?_
  rintro _ _ ⟨T, gs, ht, hg, rfl, rfl⟩
  exact ⟨_, _, gs, _, _, _, _, rfl, rfl, rfl, hK T ht hg⟩

end Go.Proofs.Ytmfdkjjhdjkgpaa

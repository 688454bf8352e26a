/- Strips: squares of a side. -/
import Derived.Test.YtmfdkjjhdjkgpaaQLst
import Derived.Test.YtmfdkjjhdjkgpaaQZk
import Derived.Test.YtmfdkjjhdjkgpaaQZf
namespace Go.Proofs.Ytmfdkjjhdjkgpaa
open Go Go.RowKit
set_option maxRecDepth 10000
set_option linter.unusedSimpArgs false

def stepP (side i : Nat) (a b : Int × Int) : Int × Int := (IntKind.i64.wrap (a.1 + b.1), IntKind.i64.wrap (IntKind.i64.wrap (a.2 + (if i = side then b.1 else 0)) + b.2))

theorem Pw_ex : ∃ f : Nat → Nat → Nat → Nat → Int × Int, ∀ side h left st, f side h left st = Es (1, 0) (0, 0) (stepP side) h left st := ⟨_, fun _ _ _ _ => rfl⟩

/-- How many ways there are, and how many squares of a side all of them have. -/
noncomputable def Pw : Nat → Nat → Nat → Nat → Int × Int := Classical.choose Pw_ex

def GoodU (side h : Nat) (U : List (List Int)) : Prop := ∀ (left st : Nat) r v, U[left]? = some r → r[st]? = some v → 0 ≤ v → v = (Pw side h left st).2

theorem GoodU.set {side h : Nat} {T : List (List Int)} (hg : GoodU side h T) {left st : Nat} {r : List Int} {v : Int} (hr : T[left]? = some r) (hv : 0 ≤ v → v = (Pw side h left st).2) : GoodU side h (T.set left (r.set st v)) := by
  intro left' st' r' v' h1 h2 h3
  by_cases e : left = left'
  · subst e
    have hl := (List.getElem?_eq_some_iff.1 hr).1
    rw [List.getElem?_set_self hl] at h1
    obtain rfl := Option.some.inj h1
    by_cases e2 : st = st'
    · subst e2
      obtain rfl := set_get h2
      exact hv h3
    · rw [List.getElem?_set_ne e2] at h2
      exact hg left st' r v' hr h2 h3
  · rw [List.getElem?_set_ne e] at h1
    exact hg left' st' r' v' h1 h2 h3

end Go.Proofs.Ytmfdkjjhdjkgpaa

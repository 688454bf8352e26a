/- Strips: by squares; the reference's memory of lists. -/
import Derived.Test.YtmfdkjjhdjkgpaaQLst
import Derived.Test.YtmfdkjjhdjkgpaaQZk
import Derived.Test.YtmfdkjjhdjkgpaaQZf
namespace Go.Proofs.Ytmfdkjjhdjkgpaa
open Go Go.RowKit
set_option maxRecDepth 10000
set_option linter.unusedSimpArgs false

/-- How many ways there are, with each number of squares. -/
noncomputable def Bw (h left st : Nat) : List Int := (Tw h left st).1

end Go.Proofs.Ytmfdkjjhdjkgpaa

namespace Go.Proofs.Ytmfdkjjhdjkgpaa
open Go Go.RowKit
set_option maxRecDepth 10000
set_option linter.unusedSimpArgs false

structure TabB (h L : Nat) (T : List (List (List Int))) : Prop where
  len : T.length = L + 1
  row : ∀ r ∈ T, r.length = 4 ^ h

def GoodB (h : Nat) (T : List (List (List Int))) : Prop := ∀ (left st : Nat) r xs, T[left]? = some r → r[st]? = some xs → xs ≠ [] → xs = Bw h left st

theorem TabB.get {h L : Nat} {T : List (List (List Int))} (ht : TabB h L T) {left st : Nat} (hl : left ≤ L) (hs : st < 4 ^ h) : ∃ r v, T[left]? = some r ∧ r[st]? = some v ∧ r.length = 4 ^ h := by
  have h1 : left < T.length := by rw [ht.len]; omega
  have hr := ht.row _ (List.getElem_mem h1)
  have h2 : st < T[left].length := by rw [hr]; exact hs
  exact ⟨_, _, List.getElem?_eq_getElem h1, List.getElem?_eq_getElem h2, hr⟩

theorem TabB.set {h L : Nat} {T : List (List (List Int))} (ht : TabB h L T) {left st : Nat} {r : List (List Int)} {v : List Int} (hr : T[left]? = some r) : TabB h L (T.set left (r.set st v)) := by
  refine ⟨by rw [List.length_set]; exact ht.len, fun x hx => ?_⟩
  rcases List.mem_or_eq_of_mem_set hx with hx | rfl
  · exact ht.row x hx
  · rw [List.length_set]; exact ht.row r (List.mem_of_getElem? hr)

theorem GoodB.set {h : Nat} {T : List (List (List Int))} (hg : GoodB h T) {left st : Nat} {r : List (List Int)} {v : List Int} (hr : T[left]? = some r) (hv : v = Bw h left st) : GoodB h (T.set left (r.set st v)) := by
  intro left' st' r' v' h1 h2 h3
  by_cases e : left = left'
  · subst e
    have hl := (List.getElem?_eq_some_iff.1 hr).1
    rw [List.getElem?_set_self hl] at h1
    obtain rfl := Option.some.inj h1
    by_cases e2 : st = st'
    · subst e2
      obtain rfl := set_get h2
      exact hv
    · rw [List.getElem?_set_ne e2] at h2
      exact hg left st' r v' hr h2 h3
  · rw [List.getElem?_set_ne e] at h1
    exact hg left' st' r' v' h1 h2 h3

end Go.Proofs.Ytmfdkjjhdjkgpaa

/- Strips: the reference's table of ways. -/
import Derived.Test.YtmfdkjjhdjkgpaaQZj
namespace Go.Proofs.Ytmfdkjjhdjkgpaa
open Go Go.RowKit
set_option maxRecDepth 10000
set_option linter.unusedSimpArgs false

structure TabL (h L : Nat) (T : List (List Int)) : Prop where
  len : T.length = L + 1
  row : ∀ r ∈ T, r.length = 4 ^ h

def GoodT (h wo : Nat) (T : List (List Int)) : Prop := ∀ (left st : Nat) r v, T[left]? = some r → r[st]? = some v → 0 ≤ v → v = IntKind.i64.wrap (Vw wo h left st)

theorem TabL.get {h L : Nat} {T : List (List Int)} (ht : TabL h L T) {left st : Nat} (hl : left ≤ L) (hs : st < 4 ^ h) : ∃ r v, T[left]? = some r ∧ r[st]? = some v ∧ r.length = 4 ^ h := by
  have h1 : left < T.length := by rw [ht.len]; omega
  have h2 := ht.row _ (List.getElem_mem h1)
  exact ⟨T[left], T[left][st], List.getElem?_eq_getElem h1, List.getElem?_eq_getElem (by omega), h2⟩

theorem TabL.set {h L : Nat} {T : List (List Int)} (ht : TabL h L T) {left st : Nat} {r : List Int} {v : Int} (hr : T[left]? = some r) : TabL h L (T.set left (r.set st v)) := by
  refine ⟨by rw [List.length_set]; exact ht.len, fun x hx => ?_⟩
  rcases List.mem_or_eq_of_mem_set hx with hx | rfl
  · exact ht.row x hx
  · rw [List.length_set]; exact ht.row r (List.mem_of_getElem? hr)

theorem GoodT.set {h wo : Nat} {T : List (List Int)} (hg : GoodT h wo T) {left st : Nat} {r : List Int} {v : Int} (hr : T[left]? = some r) (hv : 0 ≤ v → v = IntKind.i64.wrap (Vw wo h left st)) : GoodT h wo (T.set left (r.set st v)) := by
  intro left' st' r' v' hr' hv' h0
  rw [List.getElem?_set] at hr'
  split at hr'
  · rename_i e
    subst e
    split at hr'
    · obtain rfl := Option.some.inj hr'
      rw [List.getElem?_set] at hv'
      split at hv'
      · rename_i e
        subst e
        split at hv'
        · obtain rfl := Option.some.inj hv'
          exact hv h0
        · cases hv'
      · exact hg _ _ _ _ hr hv' h0
    · cases hr'
  · exact hg _ _ _ _ hr' hv' h0

end Go.Proofs.Ytmfdkjjhdjkgpaa

namespace Go.Proofs.Ytmfdkjjhdjkgpaa
open Go Go.RowKit
set_option maxRecDepth 10000
set_option linter.unusedSimpArgs false

end Go.Proofs.Ytmfdkjjhdjkgpaa

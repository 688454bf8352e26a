/- Strips: by squares; the reference's memory of lists. -/
import Derived.Test.YtmfdkjjhdjkgpaaQLst
import Derived.Test.YtmfdkjjhdjkgpaaQZk
import Derived.Test.YtmfdkjjhdjkgpaaQRst
import Derived.Test.YtmfdkjjhdjkgpaaQZf
namespace Go.Proofs.Ytmfdkjjhdjkgpaa
open Go Go.RowKit
set_option maxRecDepth 10000
set_option linter.unusedSimpArgs false

/-- All that stands out is within what is left. -/
def Rch (h left st : Nat) : Prop := ∀ i, i < h → dg st i ≤ left

theorem rch_zero {h left : Nat} : Rch h left 0 := fun i _ => by simp [dg]

theorem rch_shift {h left st : Nat} (hh : h < 5) (hst : st < 4 ^ h) (hf : freeS h st = none) (hr : Rch h left st) : Rch h (left - 1) (st - onesS 0 h) := by
  intro i hi
  have := shift_dg hh hst hf i hi
  have := hr i hi
  omega

theorem rch_nx {h left st r side a b : Nat} (hh : h < 5) (hst : st < 4 ^ h) (h1 : 1 ≤ side) (hr : Rch h left st) (hn : nx h left st r side = some (a, b)) : Rch h a b := by
  unfold nx at hn
  split at hn
  · split at hn
    · simp only [Option.some.injEq, Prod.mk.injEq] at hn
      obtain ⟨rfl, rfl⟩ := hn
      exact rch_zero
    · cases hn
  · rename_i h4
    simp only [Option.map_eq_some_iff, Prod.mk.injEq] at hn
    obtain ⟨s, hs, rfl, rfl⟩ := hn
    unfold putS at hs
    split at hs
    · rename_i hc
      obtain ⟨c1, c2, c3⟩ := hc
      obtain rfl := Option.some.inj hs
      intro i hi
      rw [put_dg hh (Nat.lt_of_lt_of_le hst (Nat.le_refl _)) (by omega) h1 c1 c3 i (by omega)]
      have := hr i hi
      split
      · rename_i hc2
        have := (clear_iff.1 c3) (i - r) (by omega)
        rw [show r + (i - r) = i by omega] at this
        omega
      · omega
    · cases hs

theorem rch_end {h st : Nat} (hh : h < 5) (hst : st < 4 ^ h) (hr : Rch h 0 st) : st = 0 := by
  refine dg_ext hh hst (Nat.pow_pos (by omega)) fun i hi => ?_
  have := hr i hi
  have e : dg 0 i = 0 := by simp [dg]
  omega

theorem nx_one {h left st r : Nat} (h0 : left ≠ 0) (hf : freeS h st = some r) : ∃ s, nx h left st r 1 = some (left, s) := by
  obtain ⟨k1, k2, _⟩ := freeS_spec hf
  refine ⟨st + 1 * onesS r 1, ?_⟩
  unfold nx putS
  rw [if_neg (by omega), if_pos ⟨by omega, by omega, by rw [clear_iff]; intro k hk; rw [show r + k = r by omega]; exact k2⟩]
  rfl

/-- How many ways there are, with each number of squares. -/
noncomputable def Bw (h left st : Nat) : List Int := (Tw h left st).1

end Go.Proofs.Ytmfdkjjhdjkgpaa

namespace Go.Proofs.Ytmfdkjjhdjkgpaa
open Go Go.RowKit
set_option maxRecDepth 10000
set_option linter.unusedSimpArgs false

structure TabB (h L : Nat) (T : List (List (List Int))) : Prop where
  len : T.length = L + 1
  row : ∀ r ∈ T, r.length = 4 ^ h

def GoodB (h : Nat) (T : List (List (List Int))) : Prop := ∀ (left st : Nat) r xs, T[left]? = some r → r[st]? = some xs → xs ≠ [] → xs = Bw h left st

theorem TabB.get {h L : Nat} {T : List (List (List Int))} (ht : TabB h L T) {left st : Nat} (hl : left ≤ L) (hs : st < 4 ^ h) : ∃ r v, T[left]? = some r ∧ r[st]? = some v ∧ r.length = 4 ^ h := by
  have h1 : left < T.length := by rw [ht.len]; omega
  have hr := ht.row _ (List.getElem_mem h1)
  have h2 : st < T[left].length := by rw [hr]; exact hs
  exact ⟨_, _, List.getElem?_eq_getElem h1, List.getElem?_eq_getElem h2, hr⟩

theorem TabB.set {h L : Nat} {T : List (List (List Int))} (ht : TabB h L T) {left st : Nat} {r : List (List Int)} {v : List Int} (hr : T[left]? = some r) : TabB h L (T.set left (r.set st v)) := by
  refine ⟨by rw [List.length_set]; exact ht.len, fun x hx => ?_⟩
  rcases List.mem_or_eq_of_mem_set hx with hx | rfl
  · exact ht.row x hx
  · rw [List.length_set]; exact ht.row r (List.mem_of_getElem? hr)

theorem GoodB.set {h : Nat} {T : List (List (List Int))} (hg : GoodB h T) {left st : Nat} {r : List (List Int)} {v : List Int} (hr : T[left]? = some r) (hv : v = Bw h left st) : GoodB h (T.set left (r.set st v)) := by
  intro left' st' r' v' h1 h2 h3
  by_cases e : left = left'
  · subst e
    have hl := (List.getElem?_eq_some_iff.1 hr).1
    rw [List.getElem?_set_self hl] at h1
    obtain rfl := Option.some.inj h1
    by_cases e2 : st = st'
    · subst e2
      obtain rfl := set_get h2
      exact hv
    · rw [List.getElem?_set_ne e2] at h2
      exact hg left st' r v' hr h2 h3
  · rw [List.getElem?_set_ne e] at h1
    exact hg left' st' r' v' h1 h2 h3

end Go.Proofs.Ytmfdkjjhdjkgpaa

/- Strips: how many there are; the law. -/
import Derived.Test.YtmfdkjjhdjkgpaaQMst
namespace Go.Proofs.Ytmfdkjjhdjkgpaa
open Go Go.RowKit
set_option maxRecDepth 10000
set_option linter.unusedSimpArgs false

theorem Ev_step_congr {α : Type} {one zero : α} {s1 s2 : Nat → α → α → α} (hs : ∀ i a b, s1 (i + 1) a b = s2 (i + 1) a b) {h : Nat} : ∀ (n left st : Nat), Ev one zero s1 h n left st = Ev one zero s2 h n left st
  | 0, _, _ => rfl
  | n + 1, left, st => by
    rw [Ev, Ev]
    split
    · rfl
    · split
      · exact Ev_step_congr hs n _ _
      · congr 1
        funext acc i
        split
        · rw [hs, Ev_step_congr hs n]
        · rfl

theorem wrap_left (a b : Int) : IntKind.i64.wrap (IntKind.i64.wrap a + b) = IntKind.i64.wrap (a + b) := by
  rw [← wrap_add, wrap_wrap, wrap_add]

theorem take_sum (l : List Int) (k : Nat) : (l.take (k + 1)).sum = (l.take k).sum + l.getD k 0 := by
  rw [List.take_add_one, List.sum_append]
  congr 1
  unfold List.getD
  cases l[k]? <;> simp

theorem sumK_eq (l : List Int) : ∀ k, sumK 0 l k = IntKind.i64.wrap ((l.take k).sum)
  | 0 => by
    rw [List.take_zero]
    exact (by decide : (0 : Int) = IntKind.i64.wrap ([] : List Int).sum)
  | k + 1 => by
    unfold sumK
    rw [sumK_eq l k, wrap_left, take_sum]

theorem sum_set : ∀ (l : List Int) (i : Nat) (v : Int), i < l.length → (l.set i v).sum = l.sum - l.getD i 0 + v
  | [], i, v, h => by simp at h
  | x :: r, 0, v, _ => by simp; omega
  | x :: r, i + 1, v, h => by
    rw [List.set_cons_succ, List.sum_cons, List.sum_cons, sum_set r i v (by simpa using h), List.getD_cons_succ]
    omega

theorem addK_sum (p o : List Int) : ∀ k, k < p.length → IntKind.i64.wrap ((addK p o k).sum) = IntKind.i64.wrap (p.sum + (o.take k).sum)
  | 0, _ => by simp [addK]
  | k + 1, h => by
    unfold addK
    rw [sum_set _ _ _ (by rw [addK_len]; omega), ← wrap_add, wrap_wrap, wrap_add, take_sum]
    rw [show (addK p o k).sum - (addK p o k).getD (k + 1) 0 + ((addK p o k).getD (k + 1) 0 + o.getD k 0) = (addK p o k).sum + o.getD k 0 by omega, ← wrap_add, addK_sum p o k (by omega), wrap_add]
    congr 1
    omega

theorem pad_sum (a : List Int) (n : Nat) : (padTo a n).sum = a.sum := by
  unfold padTo
  rw [List.sum_append]
  have : ∀ k, (List.replicate k (0 : Int)).sum = 0 := by
    intro k
    induction k with
    | zero => rfl
    | succ k ih => rw [List.replicate_succ, List.sum_cons, ih]; rfl
  rw [this]
  omega

def stepW (_ : Nat) (a b : Int) : Int := IntKind.i64.wrap (a + b)

theorem tally_sum (h left st : Nat) : sumK 0 (Tw h left st).1 (Tw h left st).1.length = IntKind.i64.wrap (Vw 0 h left st) := by
  rw [sumK_eq, List.take_length, Tw_eq, Vw_eq]
  have e1 : IntKind.i64.wrap ((Es oneT zeroT stepT h left st).1.sum) = Es 1 0 stepW h left st := by
    refine Es_hom (fun t : TY => IntKind.i64.wrap (t.1.sum)) oneT zeroT stepT 1 0 stepW (by decide) (by decide) (fun i a b => ?_)
    show IntKind.i64.wrap ((addK _ _ _).sum) = IntKind.i64.wrap (IntKind.i64.wrap a.1.sum + IntKind.i64.wrap b.1.sum)
    rw [addK_sum _ _ _ (by unfold padTo; rw [List.length_append, List.length_replicate]; omega), pad_sum, List.take_length, wrap_add]
  have e2 : IntKind.i64.wrap (Es (1 : Int) 0 (stepV 0) h left st) = Es 1 0 stepW h left st := by
    have : Es (1 : Int) 0 (stepV 0) h left st = Es 1 0 (fun _ a b => a + b) h left st := Ev_step_congr (fun i a b => by simp [stepV]) _ _ _
    rw [this]
    exact Es_hom IntKind.i64.wrap 1 0 (fun _ a b => a + b) 1 0 stepW (by decide) (by decide) (fun i a b => (wrap_add a b).symm)
  rw [e1, e2]

noncomputable def countR (h l : Int) : Int × Bool :=
  if stripB h l then (IntKind.i64.wrap (Vw 0 h.toNat l.toNat 0), true) else (0, false)

theorem specCount (h l : Int) : Fn G.P 43 [aI h, aI l] (.tup [aI (countR h l).1, aB (countR h l).2]) := by
  unfold countR
  by_cases hb : stripB h l = true
  · rw [if_pos hb]
    obtain ⟨a, b, rfl, rfl, h1, h2, h3, h4⟩ := strip_nat hb
    exact specCount_yes a b ⟨h1, h2⟩ ⟨h3, h4⟩
  · rw [if_neg hb]
    exact specCount_no h l (by simpa using hb)

theorem implCount (h l : Int) : Fn G.P 46 [aI h, aI l] (.tup [aI (countR h l).1, aB (countR h l).2]) := by
  unfold countR
  by_cases hb : stripB h l = true
  · rw [if_pos hb]
    obtain ⟨a, b, rfl, rfl, h1, h2, h3, h4⟩ := strip_nat hb
    have := implCount_yes a b ⟨h1, h2⟩ ⟨h3, h4⟩
    rw [tally_sum] at this
    exact this
  · rw [if_neg hb]
    exact implCount_no h l (by simpa using hb)

end Go.Proofs.Ytmfdkjjhdjkgpaa

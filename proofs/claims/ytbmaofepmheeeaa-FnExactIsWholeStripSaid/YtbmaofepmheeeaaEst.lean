/- Strips without squares of a side: the program. -/
import Derived.Test.YtbmaofepmheeeaaDst
namespace Go.Proofs.Ytbmaofepmheeeaa
open Go Go.RowKit
set_option maxRecDepth 10000
set_option linter.unusedSimpArgs false

/-- Ways to fill: those without squares of a side. -/
def stepV (wo : Nat) (i : Nat) (acc v : Int) : Int := if i = wo then acc else acc + v

theorem Vw_ex : ∃ f : Nat → Nat → Nat → Nat → Int, ∀ wo h left st, f wo h left st = Es (1 : Int) 0 (stepV wo) h left st := ⟨_, fun _ _ _ _ => rfl⟩

/-- The number of ways (a name that is not laid open by chance). -/
noncomputable def Vw : Nat → Nat → Nat → Nat → Int := Classical.choose Vw_ex

theorem Vw_eq (wo h left st : Nat) : Vw wo h left st = Es (1 : Int) 0 (stepV wo) h left st := Classical.choose_spec Vw_ex wo h left st

def GoodW (h l wo : Nat) (es : List (List Int × DV)) : Prop :=
  ∀ (a b c d X st : Nat) v, At h l X st [a, b, c, d] → X ≤ l → es.lookup [(a : Int), (b : Int), (c : Int), (d : Int)] = some v → v = .c (dI (IntKind.i64.wrap (Vw wo h (l - X) st)))

theorem wrap_form (x : Int) : IntKind.i64.wrap x = if x % 18446744073709551616 ≥ 9223372036854775808 then x % 18446744073709551616 - 18446744073709551616 else x % 18446744073709551616 := by
  simp [IntKind.wrap, IntKind.bits, IntKind.signed]

theorem wrap_add (a b : Int) : IntKind.i64.wrap (IntKind.i64.wrap a + IntKind.i64.wrap b) = IntKind.i64.wrap (a + b) := by
  rw [wrap_form a, wrap_form b, wrap_form (a + b), wrap_form]
  repeat' split
  all_goals omega

theorem wrap_wrap (a : Int) : IntKind.i64.wrap (IntKind.i64.wrap a) = IntKind.i64.wrap a := by
  have := wrap_add a 0
  have e : IntKind.i64.wrap 0 = 0 := by decide
  rw [e, Int.add_zero, Int.add_zero] at this
  exact this

/-- A part of the sides' sum. -/
def partE {α : Type} (one zero : α) (step : Nat → α → α → α) (h left st y i : Nat) : α := (List.range i).foldl (fun acc j => match nx h left st y (j + 1) with
  | some (l, s) => step (j + 1) acc (Es one zero step h l s)
  | none => acc) zero

theorem partE_succ {α : Type} (one zero : α) (step : Nat → α → α → α) {h left st y i a b : Nat} (hn : nx h left st y (i + 1) = some (a, b)) : partE one zero step h left st y (i + 1) = step (i + 1) (partE one zero step h left st y i) (Es one zero step h a b) := by
  unfold partE
  rw [List.range_succ, List.foldl_append]
  simp only [List.foldl_cons, List.foldl_nil, hn]

theorem partE_all {α : Type} (one zero : α) (step : Nat → α → α → α) {h left st y m : Nat} (hm : m ≤ h) (hno : ∀ i, m < i → i ≤ h → nx h left st y i = none) : partE one zero step h left st y h = partE one zero step h left st y m := by
  obtain ⟨k, rfl⟩ : ∃ k, h = m + k := ⟨h - m, by omega⟩
  have : ∀ j, j ≤ k → partE one zero step (m + k) left st y (m + j) = partE one zero step (m + k) left st y m := by
    intro j
    induction j with
    | zero => intro _; rfl
    | succ j ih =>
      intro hj
      rw [← ih (by omega)]
      conv => lhs; unfold partE
      rw [show m + (j + 1) = (m + j) + 1 by omega, List.range_succ, List.foldl_append]
      simp only [List.foldl_cons, List.foldl_nil, hno (m + j + 1) (by omega) (by omega)]
      rfl
  exact this k (Nat.le_refl _)

theorem Es_part {α : Type} (one zero : α) (step : Nat → α → α → α) {h l X st y : Nat} {R : List Nat} (hh : h < 5) (hl : l ≤ 30) (hX : X < l) (hat : At h l X st R) (hy : freeS h st = some y) : Es one zero step h (l - X) st = partE one zero step h (l - X) st y (mst h l X R y) := by
  rw [Es_put one zero step hh (by omega) hat.lt (by omega) hy]
  refine partE_all one zero step (mst_le hh) (fun i h1 h2 => ?_)
  cases hn : nx h (l - X) st y i with
  | none => rfl
  | some p =>
    have := (nx_iff hh (by omega) hat hy (by omega) h2).1 (by rw [hn]; rfl)
    omega

theorem putR_four (R : List Nat) (y side : Nat) : ∃ a b c d, putR R y side = [a, b, c, d] := ⟨_, _, _, _, rfl⟩

theorem lookup_upd {es : List (List Int × DV)} {k k' : List Int} {v : DV} : (updM es k v).lookup k' = if k' = k then some v else es.lookup k' := by
  induction es with
  | nil =>
    unfold updM
    by_cases e : k' = k
    · subst e; simp
    · rw [if_neg e, List.lookup_cons]
      have : (k' == k) = false := beq_eq_false_iff_ne.2 e
      rw [this]
  | cons x r ih =>
    obtain ⟨k0, v0⟩ := x
    unfold updM
    by_cases e0 : k0 = k
    · subst e0
      rw [if_pos (by simp)]
      by_cases e : k' = k0
      · subst e; simp
      · have : (k' == k0) = false := beq_eq_false_iff_ne.2 e
        rw [if_neg e, List.lookup_cons, List.lookup_cons, this]
    · rw [if_neg (by simpa using e0), List.lookup_cons, List.lookup_cons]
      by_cases e : k' = k0
      · subst e
        rw [if_neg e0]
        simp
      · have : (k' == k0) = false := beq_eq_false_iff_ne.2 e
        rw [this]
        exact ih

end Go.Proofs.Ytbmaofepmheeeaa

/- Lists that are put in order by insertion, and by anyone. -/

namespace Go.Proofs.Ytmfdkjjhdjkgpaa
open List

/-- Behind which place an element goes: from the end on, ahead of all that it is less than. -/
def insK {α : Type} (lt : α → α → Bool) (s : α) (l : List α) : Nat → Nat
  | 0 => 0
  | k + 1 => match l[k]? with
    | some q => if lt s q then insK lt s l k else k + 1
    | none => k + 1

def ins {α : Type} (lt : α → α → Bool) (l : List α) (s : α) : List α := l.take (insK lt s l l.length) ++ s :: l.drop (insK lt s l l.length)

def sortI {α : Type} (lt : α → α → Bool) (l : List α) : List α := l.foldl (ins lt) []

theorem ins_perm {α : Type} (lt : α → α → Bool) (l : List α) (s : α) : (ins lt l s).Perm (s :: l) := by
  unfold ins
  exact List.perm_middle.trans (by rw [List.take_append_drop])

theorem foldl_ins_perm {α : Type} (lt : α → α → Bool) : ∀ (l acc : List α), (l.foldl (ins lt) acc).Perm (l ++ acc)
  | [], acc => List.Perm.refl _
  | s :: l, acc => by
    refine (foldl_ins_perm lt l (ins lt acc s)).trans ?_
    refine ((List.Perm.refl l).append (ins_perm lt acc s)).trans ?_
    exact List.perm_middle

theorem sortI_perm {α : Type} (lt : α → α → Bool) (l : List α) : (sortI lt l).Perm l := by
  have := foldl_ins_perm lt l []
  rwa [List.append_nil] at this

theorem sortI_len {α : Type} (lt : α → α → Bool) (l : List α) : (sortI lt l).length = l.length := (sortI_perm lt l).length_eq

/-- In order: no later one is less than an earlier one. -/
abbrev Asc {α : Type} (lt : α → α → Bool) (l : List α) : Prop := l.Pairwise fun a b => lt b a = false

end Go.Proofs.Ytmfdkjjhdjkgpaa

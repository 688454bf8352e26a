/- Lists that are put in order by insertion, and by anyone. -/

namespace Go.Proofs.Ytmfdkjjhdjkgpaa
open List

/-- Behind which place an element goes: from the end on, ahead of all that it is less than. -/
def insK {α : Type} (lt : α → α → Bool) (s : α) (l : List α) : Nat → Nat
  | 0 => 0
  | k + 1 => match l[k]? with
    | some q => if lt s q then insK lt s l k else k + 1
    | none => k + 1

def ins {α : Type} (lt : α → α → Bool) (l : List α) (s : α) : List α := l.take (insK lt s l l.length) ++ s :: l.drop (insK lt s l l.length)

def sortI {α : Type} (lt : α → α → Bool) (l : List α) : List α := l.foldl (ins lt) []

theorem insK_le {α : Type} {lt : α → α → Bool} {s : α} {l : List α} : ∀ k, insK lt s l k ≤ k
  | 0 => Nat.le_refl _
  | k + 1 => by
    unfold insK
    split
    · split
      · exact Nat.le_trans (insK_le k) (Nat.le_succ k)
      · exact Nat.le_refl _
    · exact Nat.le_refl _

/-- What stands between the place and k is greater. -/
theorem insK_above {α : Type} {lt : α → α → Bool} {s : α} {l : List α} : ∀ k, k ≤ l.length → ∀ i, insK lt s l k ≤ i → i < k → ∃ q, l[i]? = some q ∧ lt s q = true
  | 0, _, i, _, h => by omega
  | k + 1, hk, i, h1, h2 => by
    unfold insK at h1
    have hq : l[k]? = some (l[k]'(by omega)) := List.getElem?_eq_getElem (by omega)
    rw [hq] at h1
    dsimp only at h1
    split at h1
    · rename_i hlt
      by_cases hik : i = k
      · subst hik; exact ⟨_, hq, hlt⟩
      · exact insK_above k (by omega) i h1 (by omega)
    · omega

/-- What stands right ahead of the place is not greater. -/
theorem insK_below {α : Type} {lt : α → α → Bool} {s : α} {l : List α} : ∀ k, k ≤ l.length → ∀ j, insK lt s l k = j + 1 → ∃ q, l[j]? = some q ∧ lt s q = false
  | 0, _, j, h => by simp [insK] at h
  | k + 1, hk, j, h => by
    unfold insK at h
    have hq : l[k]? = some (l[k]'(by omega)) := List.getElem?_eq_getElem (by omega)
    rw [hq] at h
    dsimp only at h
    split at h
    · exact insK_below k (by omega) j h
    · rename_i hlt
      obtain rfl : k = j := by omega
      exact ⟨_, hq, by simpa using hlt⟩

theorem ins_perm {α : Type} (lt : α → α → Bool) (l : List α) (s : α) : (ins lt l s).Perm (s :: l) := by
  unfold ins
  exact List.perm_middle.trans (by rw [List.take_append_drop])

theorem foldl_ins_perm {α : Type} (lt : α → α → Bool) : ∀ (l acc : List α), (l.foldl (ins lt) acc).Perm (l ++ acc)
  | [], acc => List.Perm.refl _
  | s :: l, acc => by
    refine (foldl_ins_perm lt l (ins lt acc s)).trans ?_
    refine ((List.Perm.refl l).append (ins_perm lt acc s)).trans ?_
    exact List.perm_middle

theorem sortI_perm {α : Type} (lt : α → α → Bool) (l : List α) : (sortI lt l).Perm l := by
  have := foldl_ins_perm lt l []
  rwa [List.append_nil] at this

theorem sortI_len {α : Type} (lt : α → α → Bool) (l : List α) : (sortI lt l).length = l.length := (sortI_perm lt l).length_eq

/-- In order: no later one is less than an earlier one. -/
abbrev Asc {α : Type} (lt : α → α → Bool) (l : List α) : Prop := l.Pairwise fun a b => lt b a = false

theorem ins_asc {α : Type} {lt : α → α → Bool} (hasym : ∀ x y, lt x y = true → lt y x = false) (hn : ∀ x y z, lt x y = false → lt y z = false → lt x z = false) {l : List α} {s : α} (h : Asc lt l) : Asc lt (ins lt l s) := by
  unfold ins Asc
  have hk := insK_le (lt := lt) (s := s) (l := l) l.length
  have ha := insK_above (lt := lt) (s := s) (l := l) l.length (Nat.le_refl _)
  have hb := insK_below (lt := lt) (s := s) (l := l) l.length (Nat.le_refl _)
  generalize insK lt s l l.length = k at hk ha hb ⊢
  have htd : Asc lt (l.take k ++ l.drop k) := by rw [List.take_append_drop]; exact h
  obtain ⟨h1, h2, h3⟩ := List.pairwise_append.1 htd
  have hup : ∀ b ∈ l.drop k, lt b s = false := by
    intro b hbm
    obtain ⟨i, hi, rfl⟩ := List.mem_iff_getElem.1 hbm
    have hi' : i < l.length - k := by simpa using hi
    obtain ⟨q, e1, e2⟩ := ha (k + i) (by omega) (by omega)
    have : (l.drop k)[i] = q := by
      have : (l.drop k)[i]? = some q := by rw [List.getElem?_drop]; exact e1
      rw [List.getElem?_eq_getElem hi] at this
      exact Option.some.inj this
    rw [this]
    exact hasym _ _ e2
  have hdn : ∀ a ∈ l.take k, lt s a = false := by
    intro a ham
    cases k with
    | zero => simp at ham
    | succ j =>
      obtain ⟨q, e1, e2⟩ := hb j rfl
      obtain ⟨i, hi, rfl⟩ := List.mem_iff_getElem.1 ham
      have hi' : i < j + 1 := by simp at hi; omega
      by_cases hij : i = j
      · subst hij
        have : (l.take (i + 1))[i] = q := by
          have : (l.take (i + 1))[i]? = some q := by rw [List.getElem?_take, if_pos (by omega)]; exact e1
          rw [List.getElem?_eq_getElem hi] at this
          exact Option.some.inj this
        rw [this]; exact e2
      · have hp := List.pairwise_iff_getElem.1 h i j (by omega) (by omega) (by omega)
        have e3 : l[j] = q := by
          rw [List.getElem?_eq_getElem (by omega)] at e1; exact Option.some.inj e1
        have e4 : (l.take (j + 1))[i] = l[i]'(by omega) := by simp
        rw [e4]
        rw [e3] at hp
        exact hn _ _ _ e2 hp
  rw [List.pairwise_append]
  refine ⟨h1, List.pairwise_cons.2 ⟨fun b hb => hup b hb, h2⟩, fun a ha' b hb' => ?_⟩
  rcases List.mem_cons.1 hb' with rfl | hb'
  · exact hdn a ha'
  · exact h3 a ha' b hb'

theorem sortI_asc {α : Type} {lt : α → α → Bool} (hasym : ∀ x y, lt x y = true → lt y x = false) (hn : ∀ x y z, lt x y = false → lt y z = false → lt x z = false) (l : List α) : Asc lt (sortI lt l) := by
  unfold sortI
  have : ∀ (l acc : List α), Asc lt acc → Asc lt (l.foldl (ins lt) acc) := by
    intro l
    induction l with
    | nil => exact fun acc h => h
    | cons s l ih => exact fun acc h => ih _ (ins_asc hasym hn h)
  exact this l [] List.Pairwise.nil

/-- Who puts it in order does not matter where no two are equal. -/
theorem asc_unique {α : Type} {lt : α → α → Bool} {l l' : List α} (hp : l.Perm l') (h : Asc lt l) (h' : Asc lt l') (hd : ∀ a ∈ l, ∀ b ∈ l, lt a b = false → lt b a = false → a = b) : l = l' :=
  List.Perm.eq_of_pairwise (le := fun a b => lt b a = false) (fun a b ha hb h1 h2 => hd a ha b (hp.mem_iff.2 hb) h2 h1) h h' hp

end Go.Proofs.Ytmfdkjjhdjkgpaa

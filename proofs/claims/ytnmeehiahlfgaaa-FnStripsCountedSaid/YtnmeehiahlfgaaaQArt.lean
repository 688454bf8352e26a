/- Strips: squares of all sides together; plain. -/
import Derived.Test.YtnmeehiahlfgaaaQSst
import Derived.Test.YtnmeehiahlfgaaaQZx
namespace Go.Proofs.Ytnmeehiahlfgaaa
open Go Go.RowKit
set_option maxRecDepth 10000
set_option linter.unusedSimpArgs false

theorem Ev_hom2 {α β : Type} (f : α → β) (one zero : α) (step : Nat → α → α → α) (one' zero' : β) (step' : Nat → β → β → β) {h : Nat} (h1 : f one = one') (h0 : f zero = zero') (hs : ∀ i a b, i < h → f (step (i + 1) a b) = step' (i + 1) (f a) (f b)) :
    ∀ (n left st : Nat), f (Ev one zero step h n left st) = Ev one' zero' step' h n left st
  | 0, _, _ => h0
  | n + 1, left, st => by
    rw [Ev, Ev]
    split
    · split
      · exact h1
      · exact h0
    · split
      · exact Ev_hom2 f one zero step one' zero' step' h1 h0 hs n _ _
      · rename_i r _
        have : ∀ (l : List Nat) (a : α) (b : β), (∀ i ∈ l, i < h) → f a = b → f (l.foldl (fun acc i => match nx h left st r (i + 1) with
            | some (l, s) => step (i + 1) acc (Ev one zero step h n l s)
            | none => acc) a) = l.foldl (fun acc i => match nx h left st r (i + 1) with
            | some (l, s) => step' (i + 1) acc (Ev one' zero' step' h n l s)
            | none => acc) b := by
          intro l
          induction l with
          | nil => intro a b _ hab; exact hab
          | cons x r ih =>
            intro a b hi hab
            rw [List.foldl_cons, List.foldl_cons]
            refine ih _ _ (fun j hj => hi j (by simp [hj])) ?_
            split
            · rw [hs _ _ _ (hi x (by simp)), hab, Ev_hom2 f one zero step one' zero' step' h1 h0 hs n _ _]
            · exact hab
        exact this _ _ _ (fun i hi => List.mem_range.1 hi) h0

/-- How many ways, and squares of the sides 1 to 4. -/
abbrev T5 := Nat × Nat × Nat × Nat × Nat

def on (i j : Nat) (n : Nat) : Nat := if i = j then n else 0

def step5 (i : Nat) (a b : T5) : T5 := (a.1 + b.1, a.2.1 + (on i 1 b.1 + b.2.1), a.2.2.1 + (on i 2 b.1 + b.2.2.1), a.2.2.2.1 + (on i 3 b.1 + b.2.2.2.1), a.2.2.2.2 + (on i 4 b.1 + b.2.2.2.2))

noncomputable def S5 (h left st : Nat) : T5 := Es (1, 0, 0, 0, 0) (0, 0, 0, 0, 0) step5 h left st

def of5 (t : T5) (side : Nat) : Nat := if side = 1 then t.2.1 else if side = 2 then t.2.2.1 else if side = 3 then t.2.2.2.1 else if side = 4 then t.2.2.2.2 else 0

theorem S5_sum {h : Nat} (hh : h < 5) (left st : Nat) : ((S5 h left st).1, of5 (S5 h left st) 1 + of5 (S5 h left st) 2 + of5 (S5 h left st) 3 + of5 (S5 h left st) 4) = Qn h left st := by
  unfold S5 Qn Es
  refine Ev_hom2 (fun t : T5 => (t.1, of5 t 1 + of5 t 2 + of5 t 3 + of5 t 4)) (1, 0, 0, 0, 0) (0, 0, 0, 0, 0) step5 (1, 0) (0, 0) stepQ rfl rfl (fun i a b hi => ?_) _ _ _
  have hc : i = 0 ∨ i = 1 ∨ i = 2 ∨ i = 3 := by omega
  unfold stepQ step5 of5 on
  rcases hc with rfl | rfl | rfl | rfl <;> simp <;> omega

theorem wrap_nat_add (a b : Nat) : IntKind.i64.wrap ((a + b : Nat) : Int) = IntKind.i64.wrap (IntKind.i64.wrap (a : Int) + IntKind.i64.wrap (b : Int)) := by
  rw [wrap_add, Int.natCast_add]

/-- The number that both tell is that number of squares. -/
theorem Pw_S5 (side h left st : Nat) (hs : 1 ≤ side ∧ side ≤ 4) : (Pw side h left st).2 = IntKind.i64.wrap ((of5 (S5 h left st) side : Nat) : Int) := by
  rw [Pw_eq]
  unfold S5
  have := Es_hom (fun t : T5 => (IntKind.i64.wrap (t.1 : Int), IntKind.i64.wrap ((of5 t side : Nat) : Int))) (1, 0, 0, 0, 0) (0, 0, 0, 0, 0) step5 (1, 0) (0, 0) (stepP side) (h := h) (left := left) (st := st) ?_ ?_ ?_
  · rw [← this]
  · have : side = 1 ∨ side = 2 ∨ side = 3 ∨ side = 4 := by omega
    rcases this with rfl | rfl | rfl | rfl <;> decide
  · have : side = 1 ∨ side = 2 ∨ side = 3 ∨ side = 4 := by omega
    rcases this with rfl | rfl | rfl | rfl <;> decide
  · intro i a b
    unfold stepP
    have e : of5 (step5 i a b) side = of5 a side + (on i side b.1 + of5 b side) := by
      have : side = 1 ∨ side = 2 ∨ side = 3 ∨ side = 4 := by omega
      rcases this with rfl | rfl | rfl | rfl <;> rfl
    rw [e]
    refine Prod.ext ?_ ?_
    · show IntKind.i64.wrap ((a.1 + b.1 : Nat) : Int) = _
      rw [wrap_nat_add]
    · show IntKind.i64.wrap ((of5 a side + (on i side b.1 + of5 b side) : Nat) : Int) = IntKind.i64.wrap (IntKind.i64.wrap (IntKind.i64.wrap ((of5 a side : Nat) : Int) + (if i = side then IntKind.i64.wrap (b.1 : Int) else 0)) + IntKind.i64.wrap ((of5 b side : Nat) : Int))
      have e1 : (if i = side then IntKind.i64.wrap (b.1 : Int) else 0) = IntKind.i64.wrap ((on i side b.1 : Nat) : Int) := by
        unfold on
        by_cases h : i = side
        · rw [if_pos h, if_pos h]
        · rw [if_neg h, if_neg h]; exact wrap_zero.symm
      rw [e1, wrap_add, Int.add_assoc, wrap_left]
      rw [Int.add_left_comm, wrap_left]
      congr 1
      omega

theorem S5_fst (h left st : Nat) : (S5 h left st).1 = Cn h left st := by
  rw [Cn_eq]
  exact Es_hom Prod.fst (1, 0, 0, 0, 0) (0, 0, 0, 0, 0) step5 1 0 stepN rfl rfl (fun i a b => rfl)

theorem of5_le {h l side : Nat} (hh : 1 ≤ h ∧ h < 5) (hs : 1 ≤ side ∧ side ≤ 4) : of5 (S5 h l 0) side ≤ (Qn h l 0).2 := by
  rw [← S5_sum hh.2]
  have : side = 1 ∨ side = 2 ∨ side = 3 ∨ side = 4 := by omega
  rcases this with rfl | rfl | rfl | rfl <;> (dsimp only; omega)

/-- It fits. -/
theorem Pw_get {h l side : Nat} (hh : 1 ≤ h ∧ h < 5) (hl : l ≤ 30) (hs : 1 ≤ side ∧ side ≤ 4) : (Pw side h l 0).2 = ((of5 (S5 h l 0) side : Nat) : Int) := by
  rw [Pw_S5 _ _ _ _ hs]
  have h1 := of5_le (l := l) hh hs
  have h2 := Qn_small hh hl
  exact wrap_i64 _ (by omega) (by omega)

end Go.Proofs.Ytnmeehiahlfgaaa

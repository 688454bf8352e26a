/- Lists of clues. -/
import Derived.Test.YtmfdkjjhdjkgpaaQBclue
import Derived.Test.YtmfdkjjhdjkgpaaQZe
namespace Go.Proofs.Ytmfdkjjhdjkgpaa
open Go Go.RowKit
set_option maxRecDepth 10000
set_option linter.unusedSimpArgs false

theorem rows3 {xs : List (List DC)} (hl : ∀ x ∈ xs, x.length = 3) (h : ∀ (x : List DC) (j : Nat) (d : DC) (s : Sh), x ∈ xs → x[j]? = some d → ([.int .i64, .int .i64, .int .i64] : List Sh)[j]? = some s → DCok s d) : ∃ cl : List (Int × Int × Int), xs = cl.map r3 := by
  induction xs with
  | nil => exact ⟨[], rfl⟩
  | cons x r ih =>
    obtain ⟨cl, rfl⟩ := ih (fun y hy => hl y (by simp [hy])) (fun y j d s hy => h y j d s (by simp [hy]))
    have hx := hl x (by simp)
    match x, hx with
    | [d0, d1, d2], _ =>
      have h0 := h _ 0 d0 _ (List.mem_cons_self) rfl rfl
      have h1 := h _ 1 d1 _ (List.mem_cons_self) rfl rfl
      have h2 := h _ 2 d2 _ (List.mem_cons_self) rfl rfl
      cases h0; cases h1; cases h2
      exact ⟨(_, _, _) :: cl, rfl⟩

end Go.Proofs.Ytmfdkjjhdjkgpaa

/- Cuts: lines down. -/
import Derived.Test.YtmjaefnmianfpaaQEcut
import Derived.Test.YtmjaefnmianfpaaQZj
import Derived.Test.YtmjaefnmianfpaaQRst
namespace Go.Proofs.Ytmjaefnmianfpaa
open Go Go.RowKit
set_option maxRecDepth 10000
set_option linter.unusedSimpArgs false

/-- No square goes through x. -/
def freeB (sq : List (Int × Int × Int)) (x : Int) : Bool := sq.all fun s => !(decide (s.1 < x) && decide (x < s.1 + s.2.2))

/-- The free places of the first k, from 1 on. -/
def linesK (sq : List (Int × Int × Int)) (k : Nat) : List Int := ((List.range k).map fun i : Nat => ((i + 1 : Nat) : Int)).filter (freeB sq)

theorem linesK_succ (sq : List (Int × Int × Int)) (k : Nat) : linesK sq (k + 1) = if freeB sq ((k + 1 : Nat) : Int) = true then linesK sq k ++ [((k + 1 : Nat) : Int)] else linesK sq k := by
  unfold linesK
  rw [List.range_succ, List.map_append, List.filter_append]
  generalize hx : ((k + 1 : Nat) : Int) = x
  have e : (List.map (fun i : Nat => ((i + 1 : Nat) : Int)) [k]) = [x] := by rw [← hx]; rfl
  rw [e]
  by_cases h : freeB sq x = true
  · rw [if_pos h, List.filter_cons_of_pos h]; rfl
  · rw [if_neg h, List.filter_cons_of_neg h, List.filter_nil, List.append_nil]

theorem linesK_len (sq : List (Int × Int × Int)) (k : Nat) : (linesK sq k).length ≤ k := by
  unfold linesK
  have := List.length_filter_le (freeB sq) ((List.range k).map fun i : Nat => ((i + 1 : Nat) : Int))
  simpa using this

theorem app1' {l : List Int} {n : Nat} {d : DC} {v : Int} (hn : n = l.length) : List.take n (List.drop 0 (l.map r1)) ++ List.take 1 (List.drop 0 ((List.replicate 1 [d]).set 0 [DC.v (.int .i64 v)])) = (l ++ [v]).map r1 := by
  subst hn; simp [r1, List.take_of_length_le]

end Go.Proofs.Ytmjaefnmianfpaa

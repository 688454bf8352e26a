/- The law on all counts of strips. -/
import Derived.Test.YtmjaefnmianfpaaQZad
namespace Go.Proofs.Ytmjaefnmianfpaa
open Go Go.RowKit

theorem countsOf_ok (h l n m s a b t : Int) : Fn G.P 3 [aI h, aI l, aI n, aI m, aI s, aI a, aI b, aI t] (.one (aB true)) := by
  by_cases hb0 : stripB h l = true
  · exact counts_yes h l n m s a b t hb0
  · exact counts_no h l n m s a b t hb0

theorem countsLaw (h : Int) (_ : (Lit.int .i64 h).wf = true) (l : Int) (_ : (Lit.int .i64 l).wf = true) (n : Int) (_ : (Lit.int .i64 n).wf = true) (m : Int) (_ : (Lit.int .i64 m).wf = true) (s : Int) (_ : (Lit.int .i64 s).wf = true) (a : Int) (_ : (Lit.int .i64 a).wf = true) (b : Int) (_ : (Lit.int .i64 b).wf = true) (t : Int) (_ : (Lit.int .i64 t).wf = true) : Fn G.P 3 [aI h, aI l, aI n, aI m, aI s, aI a, aI b, aI t] (.one (aB true)) := countsOf_ok h l n m s a b t

end Go.Proofs.Ytmjaefnmianfpaa

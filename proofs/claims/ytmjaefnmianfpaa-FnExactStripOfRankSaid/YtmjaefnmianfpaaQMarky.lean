/- Cuts and numbers that a law marks among others, and looks at again. -/
import Derived.Test.YtmjaefnmianfpaaQZh
import Derived.Test.YtmjaefnmianfpaaQAdesk
import Derived.Test.YtmjaefnmianfpaaQImark
import Derived.Test.YtmjaefnmianfpaaQZf
namespace Go.Proofs.Ytmjaefnmianfpaa
open Go Go.RowKit
set_option maxRecDepth 10000
set_option linter.unusedSimpArgs false

theorem markCut_min {cap : Option Nat} {xs : List (Int × Int × Int)} {w h k : Int} (hl : xs.length ≤ 2 ^ 40) (hk : 0 ≤ k ∧ k ≤ 2 ^ 40) :
    CallX G.P 35 [.agg [.d (dI w), .d (dI h), .sl 0 0 3 0 xs.length cap], .c (vI k)] [(0, .arr 3 (xs.map r3))] (fun sv objs' => sv = .one (.c (vI (k + 3 * xs.length))) ∧ ∃ gs, objs' = (0, .arr 3 ((mk3 k xs.length).map r3)) :: gs) := by
  refine call_body (G := G) Try.func35 rfl (by decide) (Nat.le_of_ble_eq_true rfl) ?_
  conv => whnf
  refine frameN [0] (markSquareS_min (cap := cap) hl hk) rfl (by decide) ⟨rfl, rfl⟩ rfl ?_
  rintro _ _ ⟨rfl, gs, rfl⟩
  refine ⟨[_], gs, rfl, Nat.le_refl _, rfl, ?_⟩
  conv => whnf
  exact ⟨rfl, _, rfl⟩

theorem markCut_x {objs : Objs} {o n : Nat} {cap : Option Nat} {ys : List (List DC)} {xs : List (Int × Int × Int)} {w h k : Int} {K : SV → Objs → Prop} (hob : objs[o]? = some (0, .arr 3 ys)) (hy : ys = xs.map r3) (hn : n = xs.length) (hl : xs.length ≤ 2 ^ 40) (hk : 0 ≤ k ∧ k ≤ 2 ^ 40)
    (hK : K (.one (.c (vI (k + 3 * xs.length)))) (objs.set o (0, .arr 3 ((mk3 k xs.length).map r3)))) : CallX G.P 35 [.agg [.d (dI w), .d (dI h), .sl o 0 3 0 n cap], .c (vI k)] objs K := by
  subst hy hn
  refine frameN [o] (markCut_min (cap := cap) hl hk) rfl (by simp) ⟨hob, rfl⟩ rfl ?_
  rintro _ _ ⟨rfl, gs, rfl⟩
  refine ⟨[_], gs, rfl, Nat.le_refl _, rfl, ?_⟩
  show K _ (objs.set o _ ++ [])
  rw [List.append_nil]
  exact hK

theorem heldCut_x {objs : Objs} {o n m : Nat} {cap : Option Nat} {w h k : Int} {K : SV → Objs → Prop} (hob : objRd objs o 0 = some (.arr 3 ((mk3 k n).map r3))) (hn : m = n) (hl : n ≤ 2 ^ 30) (hk : 0 ≤ k ∧ k ≤ 2 ^ 30)
    (hK : K (.one (.c (vI (k + 3 * n)))) objs) : CallX G.P 36 [.agg [.d (dI w), .d (dI h), .sl o 0 3 0 m cap], .c (vI k)] objs K := by
  subst hn
  refine call_fn (heldCut_ok w h k m (by omega) (by omega)) ⟨⟨rfl, rfl, ?_, trivial⟩, rfl, trivial⟩ (by show K _ (objs ++ []); rw [List.append_nil]; exact hK)
  rw [snapC_sl, hob]
  refine ⟨rfl, rfl, by decide, by simp [mk3_len], ?_⟩
  rw [List.drop_zero, List.take_of_length_le (by simp [mk3_len])]

theorem markIntS_y {objs : Objs} {o n : Nat} {cap : Option Nat} {ys : List (List DC)} {xs : List Int} {k : Int} {K : SV → Objs → Prop} (hob : objs[o]? = some (0, .arr 1 ys)) (hy : ys = xs.map r1) (hn : n = xs.length) (hl : xs.length ≤ 2 ^ 40) (hk : 0 ≤ k ∧ k ≤ 2 ^ 40)
    (hK : K (.one (.c (vI (k + xs.length)))) (objs.set o (0, .arr 1 ((mkI k xs.length).map r1)))) : CallX G.P 34 [.c (.sl o 0 1 0 n cap), .c (vI k)] objs K := by
  subst hy hn
  refine frameN [o] (markIntS_x xs k cap hl hk) rfl (by simp) ⟨hob, rfl⟩ rfl ?_
  rintro _ _ ⟨rfl, gs, rfl⟩
  refine ⟨[_], gs, rfl, Nat.le_refl _, rfl, ?_⟩
  show K _ (objs.set o _ ++ [])
  rw [List.append_nil]
  exact hK

theorem heldIntS_y {objs : Objs} {o n m : Nat} {cap : Option Nat} {k : Int} {K : SV → Objs → Prop} (hob : objRd objs o 0 = some (.arr 1 ((mkI k n).map r1))) (hn : m = n) (hl : n ≤ 2 ^ 30) (hk : 0 ≤ k ∧ k ≤ 2 ^ 30)
    (hK : K (.one (.c (vI (k + n)))) objs) : CallX G.P 41 [.c (.sl o 0 1 0 m cap), .c (vI k)] objs K := by
  subst hn
  refine call_fn (heldIntS_ok m k (by omega) (by omega)) ⟨?_, rfl, trivial⟩ (by show K _ (objs ++ []); rw [List.append_nil]; exact hK)
  rw [snapC_sl, hob]
  refine ⟨rfl, rfl, by decide, by simp [mkI_len], ?_⟩
  rw [List.drop_zero, List.take_of_length_le (by simp [mkI_len])]

end Go.Proofs.Ytmjaefnmianfpaa

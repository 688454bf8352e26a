/- Cuts put in order: impl.cutOf. -/
import Derived.Test.YtmfdkjjhdjkgpaaQZaj
import Derived.Test.YtmfdkjjhdjkgpaaQZf
import Derived.Test.YtmfdkjjhdjkgpaaQEcut
import Derived.Test.YtmfdkjjhdjkgpaaQZi
import Derived.Test.YtmfdkjjhdjkgpaaQCclue
import Derived.Test.YtmfdkjjhdjkgpaaQZy
import Derived.Test.YtmfdkjjhdjkgpaaQMarky
import Derived.Test.YtmfdkjjhdjkgpaaQZr
import Derived.Test.YtmfdkjjhdjkgpaaQZs
import Derived.Test.YtmfdkjjhdjkgpaaQZv
namespace Go.Proofs.Ytmfdkjjhdjkgpaa
open Go Go.RowKit
set_option maxRecDepth 10000
set_option maxHeartbeats 2000000
set_option linter.unusedSimpArgs false

end Go.Proofs.Ytmfdkjjhdjkgpaa

namespace Go.Proofs.Ytmfdkjjhdjkgpaa
open Go Go.RowKit
set_option maxRecDepth 10000
set_option maxHeartbeats 2000000
set_option linter.unusedSimpArgs false

theorem cuSorted_ok (l : List (Int × Int × Int)) (hn : l.length ≤ 2 ^ 20) : Fn G.P 123 [.c (.list 3 (l.map r3))] (.one (.c (.list 3 ((sortI lessB l).map r3)))) := by
  refine fn_of_body (G := G) Try.func123 rfl (by decide) (Nat.le_of_ble_eq_true rfl) ?_
  conv => whnf
  refine .inl ⟨Nat, fun i => l.length - i, fun i => i ≤ l.length, fun i => ⟨[(3, .one (.c (.sl 0 0 3 0 i none))), (8, .one (.c (.d (.list 3 (l.map r3))))), (9, .one (.c (vI l.length))), (10, .one (.c (vI i)))],
    [(0, .arr 3 ((sortI lessB (l.take i)).map r3))], _⟩, 0, Nat.zero_le _, weak_nilof (t := []) 0 3 rfl ?_ rfl rfl rfl (Nat.zero_le _) (Nat.zero_le _), fun i hi => ?_⟩
  · rw [List.length_map]
    (repeat' first | exact rfl | exact trivial | apply And.intro | (simp [getE]; done))
  replace hi : i ≤ l.length := hi
  conv => whnf
  have hll : (sortI lessB (l.take i)).length = i := by rw [sortI_len, List.length_take]; omega
  repeat' first
    | exact True.intro
    | (refine draw_mkF ?_ ?_ ?_; (focus (decide +kernel)); (focus (kernel_rfl)); conv => whnf)
    | (refine Both.mk ?_ ?_ <;> conv => whnf)
    | (refine OwnQ.own ?_; conv => whnf)
    | (refine NilQ.mk (fun hnil => ?_) ?_ <;> conv => whnf)
    | (refine draw_mk (by kernel_rfl) ?_; conv => whnf)
    | (refine Br.mk (fun hb => ?_) (fun hb => ?_) <;> conv => whnf)
    | (refine El.mk (fun el hel => ?_); obtain ⟨x, y, s, hk, rfl⟩ := r3_get hel; conv => whnf)
    | (refine And.intro ?_ ?_; (focus (first | decide | omega | (simp [contentOK, objRd, objAt, peel, List.length_map]; done) | (simp [contentOK, objRd, objAt, peel, List.length_map]; omega) | (simp [contentOK, objRd, objAt, peel, List.length_map] at *; omega))); conv => whnf)
  · have hk' : l[i]? = some (x, y, s) := by simpa using hk
    have hil : i < l.length := (List.getElem?_eq_some_iff.1 hk').1
    have hnext : sortI lessB (l.take (i + 1)) = ins lessB (sortI lessB (l.take i)) (x, y, s) := by
      rw [take_next hk', sortI, List.foldl_append]; rfl
    unfold ins at hnext
    rw [hll] at hnext
    generalize sortI lessB (l.take i) = L at hnext hll ⊢
    refine .inl ⟨Nat, fun k => k, fun k => k ≤ i ∧ insK lessB (x, y, s) L i = insK lessB (x, y, s) L k, fun k => ⟨[(3, .one (.c (.sl 0 0 3 0 i none))), (5, .one (.c (.ptr 1 0 0))), (6, .one (.c (vI k))), (8, .one (.c (.d (.list 3 (l.map r3))))), (9, .one (.c (vI l.length))), (10, .one (.c (vI i)))],
      [(0, .arr 3 (L.map r3)), (0, .box [.d (dI x), .d (dI y), .d (dI s)])], _⟩, i, ⟨Nat.le_refl _, rfl⟩, weak_of rfl ?_ rfl (Nat.zero_le _), ?_⟩
    · (repeat' first | exact rfl | exact trivial | apply And.intro | (simp [getE]; done))
    have hend : ∀ k, k ≤ i → insK lessB (x, y, s) L i = k → sortI lessB (l.take (i + 1)) = L.take k ++ (x, y, s) :: L.drop k := fun k _ h => by rw [hnext, h]
    have hwi := wrap_len (n := i + 1) (by omega)
    rintro (_ | k) ⟨hki, hins⟩
    · conv => whnf
      have he := hend 0 hki hins
      repeat' first
        | exact True.intro
        | (refine draw_mkF ?_ ?_ ?_; (focus (decide +kernel)); (focus (kernel_rfl)); conv => whnf)
        | (refine Both.mk ?_ ?_ <;> conv => whnf)
        | (refine OwnQ.own ?_; conv => whnf)
        | (refine NilQ.mk (fun hnil => ?_) ?_ <;> conv => whnf)
        | (refine draw_mk (by kernel_rfl) ?_; conv => whnf)
        | (refine Br.mk (fun hb => ?_) (fun hb => ?_) <;> conv => whnf)
        | (refine And.intro ?_ ?_; (focus (first | decide | omega | (simp [contentOK, objRd, objAt, peel, List.length_map]; done) | (simp [contentOK, objRd, objAt, peel, List.length_map]; omega) | (simp [contentOK, objRd, objAt, peel, List.length_map] at *; omega))); conv => whnf)
      all_goals
        refine ⟨i + 1, (by omega : i + 1 ≤ l.length), (by omega : l.length - (i + 1) < l.length - i), ?_⟩
        first
          | refine weak_cappickver [2] 0 3 0 ⟨congrArg (fun z => some (3, OB.arr 3 z)) ?_, rfl⟩ ?_ rfl (by decide) rfl rfl (Nat.zero_le _)
          | refine weak_cappickver [3] 0 3 0 ⟨congrArg (fun z => some (3, OB.arr 3 z)) ?_, rfl⟩ ?_ rfl (by decide) rfl rfl (Nat.zero_le _)
        · rw [chain_ins (0) (by simp <;> omega) (by simp) (by simp) (by simp <;> omega) (by simp), he, List.map_append, List.map_cons, List.map_take, List.map_drop]
          rfl
        · repeat' first
          | exact rfl
          | exact trivial
          | apply And.intro
          | exact congrArg (fun m => SV.one (V1.c (CV.sl 2 3 3 0 m none))) ((chain_len (0) (by simp <;> omega) (by simp) (by simp) (by simp <;> omega) (by simp)).trans (by simp [hll]))
          | exact congrArg (fun m => SV.one (V1.c (CV.sl 3 3 3 0 m none))) ((chain_len (0) (by simp <;> omega) (by simp) (by simp) (by simp <;> omega) (by simp)).trans (by simp [hll]))
          | exact congrArg (fun m => SV.one (V1.c (vI m))) hwi
    obtain ⟨a1, a2, a3, hq⟩ : ∃ a1 a2 a3, L[k]? = some (a1, a2, a3) := ⟨_, _, _, List.getElem?_eq_getElem (by omega)⟩
    have hwk : IntKind.i64.wrap (((k + 1 : Nat) : Int) - 1) = (k : Int) := by rw [wrap_i64 _ (by omega) (by omega)]; omega
    have hel : (L.map r3)[0 + (IntKind.i64.wrap (((k + 1 : Nat) : Int) - 1)).toNat]? = some [dI a1, dI a2, dI a3] := by
      rw [hwk, Nat.zero_add, Int.toNat_natCast, List.getElem?_map, hq]; rfl
    have hI : insK lessB (x, y, s) L (k + 1) = if lessB (x, y, s) (a1, a2, a3) then insK lessB (x, y, s) L k else k + 1 := by rw [insK, hq]
    rw [hI] at hins
    conv => whnf
    repeat' first
      | (refine El.get hel ?_; conv => whnf)
      | exact True.intro
      | (refine draw_mkF ?_ ?_ ?_; (focus (decide +kernel)); (focus (kernel_rfl)); conv => whnf)
      | (refine Both.mk ?_ ?_ <;> conv => whnf)
      | (refine OwnQ.own ?_; conv => whnf)
      | (refine NilQ.mk (fun hnil => ?_) ?_ <;> conv => whnf)
      | (refine draw_mk (by kernel_rfl) ?_; conv => whnf)
      | (refine Br.mk (fun hb => ?_) (fun hb => ?_) <;> conv => whnf)
      | (refine call_sn ?_ (cuLess_ok3 ?_ ?_ ?_ ?_ ?_ ?_) ?_; (focus ((repeat' first | exact snapRow | exact snap_row (by simp; done) | exact rfl | exact trivial | apply And.intro | omega | (simp; done)); done)); conv => whnf)
      | (refine callP_sn ?_ (cuLess_ok3 ?_ ?_ ?_ ?_ ?_ ?_) ?_; (focus ((repeat' first | exact snapRow | exact snap_row (by simp; done) | exact rfl | exact trivial | apply And.intro | omega | (simp; done)); done)); conv => whnf)
      | (refine And.intro ?_ ?_; (focus (first | decide | omega | (simp [contentOK, objRd, objAt, peel, List.length_map, hwk]; done) | (simp [contentOK, objRd, objAt, peel, List.length_map, hwk]; omega) | (simp [contentOK, objRd, objAt, peel, List.length_map, hwk] at *; omega))); conv => whnf)
    all_goals first
      | (have hlt : lessB (x, y, s) (a1, a2, a3) = true := by simp_all
         rw [if_pos hlt] at hins
         refine ⟨k, ⟨by omega, hins⟩, Nat.lt_succ_self k, weak_of rfl ?_ rfl (Nat.zero_le _)⟩
         rw [hwk]
         (repeat' first | exact rfl | exact trivial | apply And.intro | (simp [getE]; done)))
      | skip
    all_goals first
      | (exfalso; simp at hb; omega)
      | have he : sortI lessB (l.take (i + 1)) = L.take (k + 1) ++ (x, y, s) :: L.drop (k + 1) := hend (k + 1) hki (by rw [hins, if_neg (by simp_all)])
    all_goals
      refine ⟨i + 1, (by omega : i + 1 ≤ l.length), (by omega : l.length - (i + 1) < l.length - i), ?_⟩
      first
        | refine weak_cappickver [2] 0 3 0 ⟨congrArg (fun z => some (3, OB.arr 3 z)) ?_, rfl⟩ ?_ rfl (by decide) rfl rfl (Nat.zero_le _)
        | refine weak_cappickver [3] 0 3 0 ⟨congrArg (fun z => some (3, OB.arr 3 z)) ?_, rfl⟩ ?_ rfl (by decide) rfl rfl (Nat.zero_le _)
      · rw [chain_ins (k + 1) (by simp <;> omega) (by simp) (by simp) (by simp <;> omega) (by simp), he, List.map_append, List.map_cons, List.map_take, List.map_drop]
        rfl
      · repeat' first
        | exact rfl
        | exact trivial
        | apply And.intro
        | exact congrArg (fun m => SV.one (V1.c (CV.sl 2 3 3 0 m none))) ((chain_len (k + 1) (by simp <;> omega) (by simp) (by simp) (by simp <;> omega) (by simp)).trans (by simp [hll]))
        | exact congrArg (fun m => SV.one (V1.c (CV.sl 3 3 3 0 m none))) ((chain_len (k + 1) (by simp <;> omega) (by simp) (by simp) (by simp <;> omega) (by simp)).trans (by simp [hll]))
        | exact congrArg (fun m => SV.one (V1.c (vI m))) hwi
  · obtain rfl : i = l.length := by simp at hb; omega
    rw [List.take_length] at hll ⊢
    exact res_row rfl (by simp [hll]) r3_flat

end Go.Proofs.Ytmfdkjjhdjkgpaa

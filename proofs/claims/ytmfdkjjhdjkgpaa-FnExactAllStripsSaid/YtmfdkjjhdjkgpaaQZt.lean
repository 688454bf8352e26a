/- Cuts put in order: impl.cutOf. -/
import Derived.Test.YtmfdkjjhdjkgpaaQBfil
import Derived.Test.YtmfdkjjhdjkgpaaQStd
import Derived.Test.YtmfdkjjhdjkgpaaQZv
namespace Go.Proofs.Ytmfdkjjhdjkgpaa
open Go Go.RowKit
set_option maxRecDepth 10000
set_option maxHeartbeats 2000000
set_option linter.unusedSimpArgs false

theorem sortB_eq {w h : Int} {sq l ys : List (Int × Int × Int)} (hg : goodCutB w h sq = true) (hs : sq.Perm l) (hp : ys.Perm l) (ha : Asc lessB ys) (hb : Asc lessB sq) : ys = sq := by
  refine asc_unique (hp.trans hs.symm) ha hb fun a hma b hmb h1 h2 => ?_
  have hp' : ys.Perm sq := hp.trans hs.symm
  refine good_apart hg a (hp'.mem_iff.1 hma) b (hp'.mem_iff.1 hmb) ?_ ?_
  all_goals
    simp only [lessB, Bool.or_eq_false_iff, Bool.and_eq_false_imp, decide_eq_false_iff_not, beq_iff_eq] at h1 h2
    omega

theorem asc_of {lt : S3 → S3 → Bool} {L : List S3} {n : Nat} (hn : L.length = n) (h : AscR lt 0 n L) : Asc lt L := by
  refine List.pairwise_iff_getElem.2 fun i j hi hj hij => ?_
  have := h i j (Nat.zero_le _) hij (by omega)
  rwa [gD_get hi, gD_get hj] at this

/-- What making a cut gives. -/
def cofR (w h : Int) (l : List (Int × Int × Int)) : (Int × Int × List (Int × Int × Int)) × Bool := if goodCutB w h (sortI lessB l) then ((w, h, sortI lessB l), true) else ((0, 0, []), false)

theorem cof_any {w h : Int} {l ys : List (Int × Int × Int)} (hp : ys.Perm l) (ha : Asc lessB ys) : cofR w h l = if goodCutB w h ys then ((w, h, ys), true) else ((0, 0, []), false) := by
  have hb := sortI_asc lessB_asym lessB_ntrans l
  have hq := sortI_perm lessB l
  unfold cofR
  by_cases c : goodCutB w h ys = true
  · have := sortB_eq c hp hq hb ha
    rw [this]
  · by_cases d : goodCutB w h (sortI lessB l) = true
    · have := sortB_eq d hq hp ha hb
      rw [this] at c
      exact (c d).elim
    · rw [if_neg c, if_neg d]

theorem cutOf_ok (w h : Int) (l : List (Int × Int × Int)) (hl : l.length ≤ 120) (hok : ∀ x ∈ l, okSq x) :
    Fn G.P 127 [aI w, aI h, .c (.list 3 (l.map r3))] (.tup [.agg (dCut (cofR w h l).1.1 (cofR w h l).1.2.1 (cofR w h l).1.2.2), aB (cofR w h l).2]) := by
  have hclone := cloneSq_ok l (by omega)
  refine fn_of_body (G := G) Try.func127 rfl (by decide) (Nat.le_of_ble_eq_true rfl) ?_
  conv => whnf
  repeat' first
    | exact True.intro
    | (refine draw_mkF ?_ ?_ ?_; (focus (decide +kernel)); (focus (kernel_rfl)); conv => whnf)
    | (refine Both.mk ?_ ?_ <;> conv => whnf)
    | (refine OwnQ.own ?_; conv => whnf)
    | (refine NilQ.mk (fun hnil => ?_) ?_ <;> conv => whnf)
    | (refine draw_mk (by kernel_rfl) ?_; conv => whnf)
    | (refine Br.mk (fun hb => ?_) (fun hb => ?_) <;> conv => whnf)
    | (refine call_sn ?_ (hclone) ?_; (focus ((repeat' first | exact snapRow | exact snap_row (by simp; done) | exact rfl | exact trivial | apply And.intro | omega | (simp; done)); done)); conv => whnf)
    | (refine callP_sn ?_ (hclone) ?_; (focus ((repeat' first | exact snapRow | exact snap_row (by simp; done) | exact rfl | exact trivial | apply And.intro | omega | (simp; done)); done)); conv => whnf)
    | (refine And.intro ?_ ?_; (focus (first | decide | omega | (simp at *; omega) | (simp_all; done))); conv => whnf)

  refine frameN [1] (sortStable_min l none hl hok) rfl (by decide) ⟨rfl, rfl⟩ (by rw [List.length_map]; rfl) ?_
  rintro _ _ ⟨rfl, ys, gs, hs, ha, rfl⟩
  refine ⟨[_], gs, rfl, Nat.le_refl _, rfl, ?_⟩
  conv => whnf
  have hyl : ys.length = l.length := hs.len
  rw [cof_any hs.perm (asc_of hyl ha)]
  have hcut := isCut_ok w h ys (by omega)
  have e : (List.map r3 l).length = (List.map r3 ys).length := by simp [hyl]
  rw [e]
  repeat' first
    | exact True.intro
    | (refine draw_mkF ?_ ?_ ?_; (focus (decide +kernel)); (focus (kernel_rfl)); conv => whnf)
    | (refine Both.mk ?_ ?_ <;> conv => whnf)
    | (refine OwnQ.own ?_; conv => whnf)
    | (refine NilQ.mk (fun hnil => ?_) ?_ <;> conv => whnf)
    | (refine draw_mk (by kernel_rfl) ?_; conv => whnf)
    | (refine Br.mk (fun hb => ?_) (fun hb => ?_) <;> conv => whnf)
    | (refine call_sn ?_ (hcut) ?_; (focus ((repeat' first | exact snapRow | exact snap_row (by simp; done) | exact rfl | exact trivial | apply And.intro | omega | (simp; done)); done)); conv => whnf)
    | (refine callP_sn ?_ (hcut) ?_; (focus ((repeat' first | exact snapRow | exact snap_row (by simp; done) | exact rfl | exact trivial | apply And.intro | omega | (simp; done)); done)); conv => whnf)
    | (refine And.intro ?_ ?_; (focus (first | decide | omega | (simp at *; omega) | (simp_all; done))); conv => whnf)
  · have hb' : goodCutB w h ys = false := by simpa using hb
    simp only [hb', if_neg Bool.false_ne_true]
    simp [resOK_iff, resVs, resCell, resCells, refVs, refCV, refCs, dCut]
  · have hb' : goodCutB w h ys = true := by simpa using hb
    simp only [hb', if_true]
    exact ⟨⟨⟨rfl, rfl, res_cell (by simp [objAt]) (by simp) r3_flat, trivial⟩, rfl, trivial⟩, by simp [refVs, refCV, refCs]⟩

end Go.Proofs.Ytmfdkjjhdjkgpaa

namespace Go.Proofs.Ytmfdkjjhdjkgpaa
open Go Go.RowKit
set_option maxRecDepth 10000
set_option maxHeartbeats 2000000
set_option linter.unusedSimpArgs false

theorem cuSorted_ok (l : List (Int × Int × Int)) (hn : l.length ≤ 2 ^ 20) : Fn G.P 123 [.c (.list 3 (l.map r3))] (.one (.c (.list 3 ((sortI lessB l).map r3)))) := by
  refine fn_of_body (G := G) Try.func123 rfl (by decide) (Nat.le_of_ble_eq_true rfl) ?_
  conv => whnf
  refine .inl ⟨Nat, fun i => l.length - i, fun i => i ≤ l.length, fun i => ⟨[(3, .one (.c (.sl 0 0 3 0 i none))), (8, .one (.c (.d (.list 3 (l.map r3))))), (9, .one (.c (vI l.length))), (10, .one (.c (vI i)))],
    [(0, .arr 3 ((sortI lessB (l.take i)).map r3))], _⟩, 0, Nat.zero_le _, weak_nilof (t := []) 0 3 rfl ?_ rfl rfl rfl (Nat.zero_le _) (Nat.zero_le _), fun i hi => ?_⟩
  · rw [List.length_map]
    (repeat' first | exact rfl | exact trivial | apply And.intro | (simp [getE]; done))
  replace hi : i ≤ l.length := hi
  conv => whnf
  have hll : (sortI lessB (l.take i)).length = i := by rw [sortI_len, List.length_take]; omega
  repeat' first
    | exact True.intro
    | (refine draw_mkF ?_ ?_ ?_; (focus (decide +kernel)); (focus (kernel_rfl)); conv => whnf)
    | (refine Both.mk ?_ ?_ <;> conv => whnf)
    | (refine OwnQ.own ?_; conv => whnf)
    | (refine NilQ.mk (fun hnil => ?_) ?_ <;> conv => whnf)
    | (refine draw_mk (by kernel_rfl) ?_; conv => whnf)
    | (refine Br.mk (fun hb => ?_) (fun hb => ?_) <;> conv => whnf)
    | (refine El.mk (fun el hel => ?_); obtain ⟨x, y, s, hk, rfl⟩ := r3_get hel; conv => whnf)
    | (refine And.intro ?_ ?_; (focus (first | decide | omega | (simp [contentOK, objRd, objAt, peel, List.length_map]; done) | (simp [contentOK, objRd, objAt, peel, List.length_map]; omega) | (simp [contentOK, objRd, objAt, peel, List.length_map] at *; omega))); conv => whnf)
  · have hk' : l[i]? = some (x, y, s) := by simpa using hk
    have hil : i < l.length := (List.getElem?_eq_some_iff.1 hk').1
    have hnext : sortI lessB (l.take (i + 1)) = ins lessB (sortI lessB (l.take i)) (x, y, s) := by
      rw [take_next hk', sortI, List.foldl_append]; rfl
    unfold ins at hnext
    rw [hll] at hnext
    generalize sortI lessB (l.take i) = L at hnext hll ⊢
    refine .inl ⟨Nat, fun k => k, fun k => k ≤ i ∧ insK lessB (x, y, s) L i = insK lessB (x, y, s) L k, fun k => ⟨[(3, .one (.c (.sl 0 0 3 0 i none))), (5, .one (.c (.ptr 1 0 0))), (6, .one (.c (vI k))), (8, .one (.c (.d (.list 3 (l.map r3))))), (9, .one (.c (vI l.length))), (10, .one (.c (vI i)))],
      [(0, .arr 3 (L.map r3)), (0, .box [.d (dI x), .d (dI y), .d (dI s)])], _⟩, i, ⟨Nat.le_refl _, rfl⟩, weak_of rfl ?_ rfl (Nat.zero_le _), ?_⟩
    · (repeat' first | exact rfl | exact trivial | apply And.intro | (simp [getE]; done))
    have hend : ∀ k, k ≤ i → insK lessB (x, y, s) L i = k → sortI lessB (l.take (i + 1)) = L.take k ++ (x, y, s) :: L.drop k := fun k _ h => by rw [hnext, h]
    have hwi := wrap_len (n := i + 1) (by omega)
    rintro (_ | k) ⟨hki, hins⟩
    · conv => whnf
      have he := hend 0 hki hins
      repeat' first
        | exact True.intro
        | (refine draw_mkF ?_ ?_ ?_; (focus (decide +kernel)); (focus (kernel_rfl)); conv => whnf)
        | (refine Both.mk ?_ ?_ <;> conv => whnf)
        | (refine OwnQ.own ?_; conv => whnf)
        | (refine NilQ.mk (fun hnil => ?_) ?_ <;> conv => whnf)
        | (refine draw_mk (by kernel_rfl) ?_; conv => whnf)
        | (refine Br.mk (fun hb => ?_) (fun hb => ?_) <;> conv => whnf)
        | (refine And.intro ?_ ?_; (focus (first | decide | omega | (simp [contentOK, objRd, objAt, peel, List.length_map]; done) | (simp [contentOK, objRd, objAt, peel, List.length_map]; omega) | (simp [contentOK, objRd, objAt, peel, List.length_map] at *; omega))); conv => whnf)
      all_goals
        refine ⟨i + 1, (by omega : i + 1 ≤ l.length), (by omega : l.length - (i + 1) < l.length - i), ?_⟩
        first
          | refine weak_cappickver [2] 0 3 0 ⟨congrArg (fun z => some (3, OB.arr 3 z)) ?_, rfl⟩ ?_ rfl (by decide) rfl rfl (Nat.zero_le _)
          | refine weak_cappickver [3] 0 3 0 ⟨congrArg (fun z => some (3, OB.arr 3 z)) ?_, rfl⟩ ?_ rfl (by decide) rfl rfl (Nat.zero_le _)
        · rw [chain_ins (0) (by simp <;> omega) (by simp) (by simp) (by simp <;> omega) (by simp), he, List.map_append, List.map_cons, List.map_take, List.map_drop]
          rfl
        · repeat' first
          | exact rfl
          | exact trivial
          | apply And.intro
          | exact congrArg (fun m => SV.one (V1.c (CV.sl 2 3 3 0 m none))) ((chain_len (0) (by simp <;> omega) (by simp) (by simp) (by simp <;> omega) (by simp)).trans (by simp [hll]))
          | exact congrArg (fun m => SV.one (V1.c (CV.sl 3 3 3 0 m none))) ((chain_len (0) (by simp <;> omega) (by simp) (by simp) (by simp <;> omega) (by simp)).trans (by simp [hll]))
          | exact congrArg (fun m => SV.one (V1.c (vI m))) hwi
    obtain ⟨a1, a2, a3, hq⟩ : ∃ a1 a2 a3, L[k]? = some (a1, a2, a3) := ⟨_, _, _, List.getElem?_eq_getElem (by omega)⟩
    have hwk : IntKind.i64.wrap (((k + 1 : Nat) : Int) - 1) = (k : Int) := by rw [wrap_i64 _ (by omega) (by omega)]; omega
    have hel : (L.map r3)[0 + (IntKind.i64.wrap (((k + 1 : Nat) : Int) - 1)).toNat]? = some [dI a1, dI a2, dI a3] := by
      rw [hwk, Nat.zero_add, Int.toNat_natCast, List.getElem?_map, hq]; rfl
    have hI : insK lessB (x, y, s) L (k + 1) = if lessB (x, y, s) (a1, a2, a3) then insK lessB (x, y, s) L k else k + 1 := by rw [insK, hq]
    rw [hI] at hins
    conv => whnf
    repeat' first
      | (refine El.get hel ?_; conv => whnf)
      | exact True.intro
      | (refine draw_mkF ?_ ?_ ?_; (focus (decide +kernel)); (focus (kernel_rfl)); conv => whnf)
      | (refine Both.mk ?_ ?_ <;> conv => whnf)
      | (refine OwnQ.own ?_; conv => whnf)
      | (refine NilQ.mk (fun hnil => ?_) ?_ <;> conv => whnf)
      | (refine draw_mk (by kernel_rfl) ?_; conv => whnf)
      | (refine Br.mk (fun hb => ?_) (fun hb => ?_) <;> conv => whnf)
      | (refine call_sn ?_ (cuLess_ok3 ?_ ?_ ?_ ?_ ?_ ?_) ?_; (focus ((repeat' first | exact snapRow | exact snap_row (by simp; done) | exact rfl | exact trivial | apply And.intro | omega | (simp; done)); done)); conv => whnf)
      | (refine callP_sn ?_ (cuLess_ok3 ?_ ?_ ?_ ?_ ?_ ?_) ?_; (focus ((repeat' first | exact snapRow | exact snap_row (by simp; done) | exact rfl | exact trivial | apply And.intro | omega | (simp; done)); done)); conv => whnf)
      | (refine And.intro ?_ ?_; (focus (first | decide | omega | (simp [contentOK, objRd, objAt, peel, List.length_map, hwk]; done) | (simp [contentOK, objRd, objAt, peel, List.length_map, hwk]; omega) | (simp [contentOK, objRd, objAt, peel, List.length_map, hwk] at *; omega))); conv => whnf)
    all_goals first
      | (have hlt : lessB (x, y, s) (a1, a2, a3) = true := by simp_all
         rw [if_pos hlt] at hins
         refine ⟨k, ⟨by omega, hins⟩, Nat.lt_succ_self k, weak_of rfl ?_ rfl (Nat.zero_le _)⟩
         rw [hwk]
         (repeat' first | exact rfl | exact trivial | apply And.intro | (simp [getE]; done)))
      | skip
    all_goals first
      | (exfalso; simp at hb; omega)
      | have he : sortI lessB (l.take (i + 1)) = L.take (k + 1) ++ (x, y, s) :: L.drop (k + 1) := hend (k + 1) hki (by rw [hins, if_neg (by simp_all)])
    all_goals
      refine ⟨i + 1, (by omega : i + 1 ≤ l.length), (by omega : l.length - (i + 1) < l.length - i), ?_⟩
      first
        | refine weak_cappickver [2] 0 3 0 ⟨congrArg (fun z => some (3, OB.arr 3 z)) ?_, rfl⟩ ?_ rfl (by decide) rfl rfl (Nat.zero_le _)
        | refine weak_cappickver [3] 0 3 0 ⟨congrArg (fun z => some (3, OB.arr 3 z)) ?_, rfl⟩ ?_ rfl (by decide) rfl rfl (Nat.zero_le _)
      · rw [chain_ins (k + 1) (by simp <;> omega) (by simp) (by simp) (by simp <;> omega) (by simp), he, List.map_append, List.map_cons, List.map_take, List.map_drop]
        rfl
      · repeat' first
        | exact rfl
        | exact trivial
        | apply And.intro
        | exact congrArg (fun m => SV.one (V1.c (CV.sl 2 3 3 0 m none))) ((chain_len (k + 1) (by simp <;> omega) (by simp) (by simp) (by simp <;> omega) (by simp)).trans (by simp [hll]))
        | exact congrArg (fun m => SV.one (V1.c (CV.sl 3 3 3 0 m none))) ((chain_len (k + 1) (by simp <;> omega) (by simp) (by simp) (by simp <;> omega) (by simp)).trans (by simp [hll]))
        | exact congrArg (fun m => SV.one (V1.c (vI m))) hwi
  · obtain rfl : i = l.length := by simp at hb; omega
    rw [List.take_length] at hll ⊢
    exact res_row rfl (by simp [hll]) r3_flat

theorem cuMake_few (w h : Int) (l : List (Int × Int × Int)) (hl : l.length ≤ 30) :
    Fn G.P 84 [aI w, aI h, .c (.list 3 (l.map r3))] (.tup [.agg (dCut (cofR w h l).1.1 (cofR w h l).1.2.1 (cofR w h l).1.2.2), aB (cofR w h l).2]) := by
  have hs := cuSorted_ok l (by omega)
  have hll : (sortI lessB l).length = l.length := sortI_len _ _
  have hg := cuGood_ok w h (sortI lessB l) (by omega)
  unfold cofR
  refine fn_of_body (G := G) Try.func84 rfl (by decide) (Nat.le_of_ble_eq_true rfl) ?_
  conv => whnf
  repeat' first
    | exact True.intro
    | (refine draw_mkF ?_ ?_ ?_; (focus (decide +kernel)); (focus (kernel_rfl)); conv => whnf)
    | (refine Both.mk ?_ ?_ <;> conv => whnf)
    | (refine OwnQ.own ?_; conv => whnf)
    | (refine NilQ.mk (fun hnil => ?_) ?_ <;> conv => whnf)
    | (refine draw_mk (by kernel_rfl) ?_; conv => whnf)
    | (refine Br.mk (fun hb => ?_) (fun hb => ?_) <;> conv => whnf)
    | (refine call_sn ?_ (hs) ?_; (focus ((repeat' first | exact snapRow | exact snap_row (by simp; done) | exact rfl | exact trivial | apply And.intro | omega | (simp; done)); done)); conv => whnf)
    | (refine callP_sn ?_ (hs) ?_; (focus ((repeat' first | exact snapRow | exact snap_row (by simp; done) | exact rfl | exact trivial | apply And.intro | omega | (simp; done)); done)); conv => whnf)
    | (refine call_sn ?_ (hg) ?_; (focus ((repeat' first | exact snapRow | exact snap_row (by simp; done) | exact rfl | exact trivial | apply And.intro | omega | (simp; done)); done)); conv => whnf)
    | (refine callP_sn ?_ (hg) ?_; (focus ((repeat' first | exact snapRow | exact snap_row (by simp; done) | exact rfl | exact trivial | apply And.intro | omega | (simp; done)); done)); conv => whnf)
    | (refine And.intro ?_ ?_; (focus (first | decide | omega | (simp [contentOK, objRd, objAt, peel, List.length_map]; done) | (simp [contentOK, objRd, objAt, peel, List.length_map]; omega) | (simp [contentOK, objRd, objAt, peel, List.length_map] at *; omega))); conv => whnf)
  all_goals first | (exfalso; simp at hb; omega) | skip
  · have hb' : goodCutB w h (sortI lessB l) = false := by simpa using hb
    simp only [hb', if_neg Bool.false_ne_true]
    simp [resOK_iff, resVs, resCell, resCells, refVs, refCV, refCs, dCut]
  · have hb' : goodCutB w h (sortI lessB l) = true := by simpa using hb
    simp only [hb', if_true]
    exact ⟨⟨⟨rfl, rfl, res_cell (by simp [objAt]) (by simp) r3_flat, trivial⟩, rfl, trivial⟩, by simp [refVs, refCV, refCs]⟩

theorem cofR_many {w h : Int} {l : List (Int × Int × Int)} (hl : 30 < l.length) : cofR w h l = ((0, 0, []), false) := by
  unfold cofR
  rw [if_neg]
  intro g
  have := (good_chk g).2.2.1
  rw [sortI_len] at this
  omega

theorem cuMake_ok (w h : Int) (l : List (Int × Int × Int)) (hl : l.length ≤ 120) :
    Fn G.P 84 [aI w, aI h, .c (.list 3 (l.map r3))] (.tup [.agg (dCut (cofR w h l).1.1 (cofR w h l).1.2.1 (cofR w h l).1.2.2), aB (cofR w h l).2]) := by
  by_cases c : l.length ≤ 30
  · exact cuMake_few w h l c
  · rw [cofR_many (by omega)]
    refine fn_of_body (G := G) Try.func84 rfl (by decide) (Nat.le_of_ble_eq_true rfl) ?_
    conv => whnf
    repeat' first
      | exact True.intro
      | (refine draw_mkF ?_ ?_ ?_; (focus (decide +kernel)); (focus (kernel_rfl)); conv => whnf)
      | (refine Both.mk ?_ ?_ <;> conv => whnf)
      | (refine OwnQ.own ?_; conv => whnf)
      | (refine NilQ.mk (fun hnil => ?_) ?_ <;> conv => whnf)
      | (refine draw_mk (by kernel_rfl) ?_; conv => whnf)
      | (refine Br.mk (fun hb => ?_) (fun hb => ?_) <;> conv => whnf)
      | (refine And.intro ?_ ?_; (focus (first | decide | omega | (simp [contentOK, objRd, objAt, peel, List.length_map]; done) | (simp [contentOK, objRd, objAt, peel, List.length_map]; omega) | (simp [contentOK, objRd, objAt, peel, List.length_map] at *; omega))); conv => whnf)
    all_goals first
      | (simp [resOK_iff, resVs, resCell, resCells, refVs, refCV, refCs, dCut]; done)
      | (exfalso; simp at hb; omega)

end Go.Proofs.Ytmfdkjjhdjkgpaa

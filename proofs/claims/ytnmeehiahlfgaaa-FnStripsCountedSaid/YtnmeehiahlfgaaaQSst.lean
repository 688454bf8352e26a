/- Strips: squares of a side. -/
import Derived.Test.YtnmeehiahlfgaaaQOst
import Derived.Test.YtnmeehiahlfgaaaQZf
namespace Go.Proofs.Ytnmeehiahlfgaaa
open Go Go.RowKit
set_option maxRecDepth 10000
set_option linter.unusedSimpArgs false

def stepP (side i : Nat) (a b : Int × Int) : Int × Int := (IntKind.i64.wrap (a.1 + b.1), IntKind.i64.wrap (IntKind.i64.wrap (a.2 + (if i = side then b.1 else 0)) + b.2))

theorem Pw_ex : ∃ f : Nat → Nat → Nat → Nat → Int × Int, ∀ side h left st, f side h left st = Es (1, 0) (0, 0) (stepP side) h left st := ⟨_, fun _ _ _ _ => rfl⟩

/-- How many ways there are, and how many squares of a side all of them have. -/
noncomputable def Pw : Nat → Nat → Nat → Nat → Int × Int := Classical.choose Pw_ex

theorem Pw_eq (side h left st : Nat) : Pw side h left st = Es (1, 0) (0, 0) (stepP side) h left st := Classical.choose_spec Pw_ex side h left st

theorem Pw_fst (side h left st : Nat) : (Pw side h left st).1 = IntKind.i64.wrap (Vw 0 h left st) := by
  rw [Pw_eq, Vw_eq]
  have e2 : IntKind.i64.wrap (Es (1 : Int) 0 (stepV 0) h left st) = Es 1 0 stepW h left st := by
    have : Es (1 : Int) 0 (stepV 0) h left st = Es 1 0 (fun _ a b => a + b) h left st := Ev_step_congr (fun i a b => by simp [stepV]) _ _ _
    rw [this]
    exact Es_hom IntKind.i64.wrap 1 0 (fun _ a b => a + b) 1 0 stepW (by decide) (by decide) (fun i a b => (wrap_add a b).symm)
  rw [e2]
  exact Es_hom Prod.fst (1, 0) (0, 0) (stepP side) 1 0 stepW rfl rfl (fun i a b => rfl)

def sideOf (t : TY) (side : Nat) : Int :=
  if side = 1 then t.2.2.1 else if side = 2 then t.2.2.2.1 else if side = 3 then t.2.2.2.2.1 else if side = 4 then t.2.2.2.2.2 else 0

theorem sumK_from (s : Int) (o : List Int) : ∀ k, IntKind.i64.wrap (sumK s o k) = IntKind.i64.wrap (s + (o.take k).sum)
  | 0 => by simp [sumK]
  | k + 1 => by
    unfold sumK
    rw [wrap_wrap, ← wrap_left, sumK_from s o k, wrap_left, take_sum]
    congr 1
    omega

theorem sideK_wadd (i j : Nat) (s v : Int) (o : List Int) : wadd (sideK i j s o) v = IntKind.i64.wrap (IntKind.i64.wrap (s + (if i = j then IntKind.i64.wrap o.sum else 0)) + v) := by
  unfold wadd sideK
  rw [wrap_left]
  by_cases h : i = j
  · rw [if_pos h, if_pos h, ← wrap_left, sumK_from, List.take_length, wrap_left]
    rw [show s + o.sum + v = o.sum + (s + v) by omega, ← wrap_left]
    congr 1; omega
  · rw [if_neg h, if_neg h, Int.add_zero]

theorem tally_side (side h left st : Nat) (hs : 1 ≤ side ∧ side ≤ 4) : sideOf (Tw h left st) side = (Pw side h left st).2 := by
  rw [Tw_eq, Pw_eq]
  have := Es_hom (fun t : TY => (IntKind.i64.wrap t.1.sum, sideOf t side)) oneT zeroT stepT (1, 0) (0, 0) (stepP side) (h := h) (left := left) (st := st) ?_ ?_ ?_
  · rw [← this]
  · have : side = 1 ∨ side = 2 ∨ side = 3 ∨ side = 4 := by omega
    rcases this with rfl | rfl | rfl | rfl <;> decide
  · have : side = 1 ∨ side = 2 ∨ side = 3 ∨ side = 4 := by omega
    rcases this with rfl | rfl | rfl | rfl <;> decide
  · intro i a b
    have e1 : IntKind.i64.wrap ((stepT i a b).1.sum) = IntKind.i64.wrap (IntKind.i64.wrap a.1.sum + IntKind.i64.wrap b.1.sum) := by
      show IntKind.i64.wrap ((addK _ _ _).sum) = _
      rw [addK_sum _ _ _ (by unfold padTo; rw [List.length_append, List.length_replicate]; omega), pad_sum, List.take_length, wrap_add]
    have e2 : sideOf (stepT i a b) side = wadd (sideK i side (sideOf a side) b.1) (sideOf b side) := by
      have : side = 1 ∨ side = 2 ∨ side = 3 ∨ side = 4 := by omega
      rcases this with rfl | rfl | rfl | rfl <;> rfl
    unfold stepP
    rw [e1, e2, sideK_wadd]

def GoodU (side h : Nat) (U : List (List Int)) : Prop := ∀ (left st : Nat) r v, U[left]? = some r → r[st]? = some v → 0 ≤ v → v = (Pw side h left st).2

theorem GoodU.set {side h : Nat} {T : List (List Int)} (hg : GoodU side h T) {left st : Nat} {r : List Int} {v : Int} (hr : T[left]? = some r) (hv : 0 ≤ v → v = (Pw side h left st).2) : GoodU side h (T.set left (r.set st v)) := by
  intro left' st' r' v' h1 h2 h3
  by_cases e : left = left'
  · subst e
    have hl := (List.getElem?_eq_some_iff.1 hr).1
    rw [List.getElem?_set_self hl] at h1
    obtain rfl := Option.some.inj h1
    by_cases e2 : st = st'
    · subst e2
      obtain rfl := set_get h2
      exact hv h3
    · rw [List.getElem?_set_ne e2] at h2
      exact hg left st' r v' hr h2 h3
  · rw [List.getElem?_set_ne e] at h1
    exact hg left' st' r' v' h1 h2 h3

theorem countSide_c {h L wo left st r side : Nat} {cap : Option Nat} {objs : Objs} {o : Nat} {T : List (List Int)} {K : SV → Objs → Prop} (hh : 1 ≤ h ∧ h < 5) (hL : L ≤ 30) (hl : left ≤ L) (hst : st < 4 ^ h) (hr : r < 4) (h1 : 1 ≤ side) (hs : side ≤ h)
    (ht : TabL h L T) (hg : GoodT h wo T) (hob : objAt objs o 0 = some (.grid 1 (gx T)))
    (hK : ∀ T', TabL h L T' → GoodT h wo T' → K (.one (.c (vI (nxV wo h left st r side)))) (objs.set o (0, .grid 1 (gx T')))) :
    CallX G.P 54 [.c (.sl o 0 1 0 (L + 1) cap), .c (vI h), .c (vI left), .c (vI st), .c (vI r), .c (vI side), .c (vI wo)] objs K := by
  refine frame1 (stCountSide_of (cap := cap) hh (by omega) hst hr h1 hs (fun l s hn => by
      obtain ⟨n1, n2, n3⟩ := nx_mu hh.2 hst h1 hs hn
      exact stCount_rec hh hL 1000 l s (by omega) n2 (Nat.lt_of_lt_of_le (mu_small hh.2 (by omega)) (by omega))) ht hg) rfl hob
    (.cons (.c .sl) (.cons (.c (.data rfl)) (.cons (.c (.data rfl)) (.cons (.c (.data rfl)) (.cons (.c (.data rfl)) (.cons (.c (.data rfl)) (.cons (.c (.data rfl)) .nil))))))) ?_
  rintro _ _ ⟨rfl, T', gs', ht', hg', rfl⟩
  exact ⟨_, gs', rfl, rfl, rfl, hK T' ht' hg'⟩

theorem partP_wrap {side h left st y : Nat} : ∀ i, IntKind.i64.wrap (partE ((1, 0) : Int × Int) (0, 0) (stepP side) h left st y i).2 = (partE ((1, 0) : Int × Int) (0, 0) (stepP side) h left st y i).2
  | 0 => (by decide : IntKind.i64.wrap 0 = 0)
  | i + 1 => by
    have ih := partP_wrap (side := side) (h := h) (left := left) (st := st) (y := y) i
    cases hn : nx h left st y (i + 1) with
    | some p =>
      obtain ⟨l', s'⟩ := p
      rw [partE_succ _ _ _ hn]
      exact wrap_wrap _
    | none =>
      have hp : partE ((1, 0) : Int × Int) (0, 0) (stepP side) h left st y (i + 1) = partE ((1, 0) : Int × Int) (0, 0) (stepP side) h left st y i := by
        conv => lhs; unfold partE
        rw [List.range_succ, List.foldl_append]
        simp only [List.foldl_cons, List.foldl_nil, hn]
        rfl
      rw [hp, ih]

theorem stOfSide_rec {h L side : Nat} {cap1 cap2 : Option Nat} (hh : 1 ≤ h ∧ h < 5) (hL : L ≤ 30) (hs : 1 ≤ side ∧ side ≤ 4) : ∀ (n left st : Nat), left ≤ L → st < 4 ^ h → mu h left st < n →
    ∀ T U, TabL h L T → GoodT h 0 T → TabL h L U → GoodU side h U →
    CallX G.P 47 [.c (.sl 0 0 1 0 (L + 1) cap1), .c (.sl 1 0 1 0 (L + 1) cap2), .c (vI h), .c (vI left), .c (vI st), .c (vI side)] [(0, .grid 1 (gx T)), (0, .grid 1 (gx U))]
      (fun sv objs1 => sv = .one (.c (vI (Pw side h left st).2)) ∧ ∃ T' U', TabL h L T' ∧ GoodT h 0 T' ∧ TabL h L U' ∧ GoodU side h U' ∧ ∃ gs, objs1 = [(0, .grid 1 (gx T')), (0, .grid 1 (gx U'))] ++ gs)
  | 0, _, _, _, _, hm => by omega
  | n + 1, left, st, hl, hst, hm => by
    intro T U ht hg hu hv
    have h256 := Nat.lt_of_lt_of_le hst (pow_le256 hh.2)
    obtain ⟨r, v, hr, hrv, hrl⟩ := hu.get hl hst
    have hgl := gx_len U
    have hul := hu.len
    refine call_body (G := G) Try.func47 rfl (by decide) (Nat.le_of_ble_eq_true rfl) ?_
    conv => whnf
    refine Br.mk (fun hb => ?_) (fun hb => ?_) <;> conv => whnf
    · have h0 : left = 0 := by simp at hb; omega
      have e : (Pw side h left st).2 = 0 := by
        rw [Pw_eq, h0]
        unfold Es; rw [Ev, if_pos rfl]
        split <;> rfl
      rw [e]
      exact ⟨rfl, T, U, ht, hg, hu, hv, [], rfl⟩
    have h0 : ¬ left = 0 := by simp at hb; omega
    have hlN : 0 + ((left : Int)).toNat = left := by simp
    refine ⟨by omega, by omega, ?_⟩
    conv => whnf
    refine ⟨by rw [hgl, hul, hlN]; omega, ElG.mk (fun el hel => ?_)⟩
    obtain ⟨r', hr', rfl⟩ := gx_get hel
    rw [hlN, hr] at hr'
    obtain rfl := Option.some.inj hr'
    conv => whnf
    refine ⟨by omega, by simp; omega, ?_⟩
    conv => whnf
    refine RowAt.mk' (gx_row' hr (by simp)) ?_
    refine ⟨by simp; omega, El.mk (fun el2 hel2 => ?_)⟩
    obtain ⟨v', hv', rfl⟩ := r1_get hel2
    have hv2 : v' = v := by simp at hv'; rw [hrv] at hv'; exact (Option.some.inj hv').symm
    subst hv2
    conv => whnf
    refine Br.mk (fun hb1 => ?_) (fun hb1 => ?_) <;> conv => whnf
    · -- known
      refine ⟨by omega, by omega, ?_⟩
      conv => whnf
      refine ⟨by rw [hgl, hul, hlN]; omega, ElG.mk (fun el hel => ?_)⟩
      obtain ⟨r', hr', rfl⟩ := gx_get hel
      rw [hlN, hr] at hr'
      obtain rfl := Option.some.inj hr'
      conv => whnf
      refine ⟨by omega, by simp; omega, ?_⟩
      conv => whnf
      refine RowAt.mk' (gx_row' hr (by simp)) ?_
      refine ⟨by simp; omega, El.mk (fun el2 hel2 => ?_)⟩
      obtain ⟨v'', hv'', rfl⟩ := r1_get hel2
      have hv3 : v'' = v' := by simp at hv''; rw [hrv] at hv''; exact (Option.some.inj hv'').symm
      subst hv3
      conv => whnf
      have hge : 0 ≤ v'' := by simpa using hb1
      exact ⟨by rw [← hv left st r v'' hr hrv hge], T, U, ht, hg, hu, hv, [], rfl⟩
    have hfree := stFree_ok st h h256 hh.2
    cases hf : freeS h st with
    | none =>
      have hfi : freeI h st = -1 := by unfold freeI; rw [hf]
      obtain ⟨s1, s2⟩ := shift_lt h hh.2 st h256 hst hf
      have hw : IntKind.i64.wrap ((left : Int) - 1) = ((left - 1 : Nat) : Int) := by rw [wrap_i64 _ (by omega) (by omega)]; omega
      have hval : Pw side h left st = Pw side h (left - 1) (st - onesS 0 h) := by rw [Pw_eq, Pw_eq]; exact Es_shift _ _ _ hh.2 (by omega) hst h0 hf
      have hmu : mu h (left - 1) (st - onesS 0 h) < n := by
        have hz := zer_le h (st - onesS 0 h)
        have e : (h + 1) * left = (h + 1) * (left - 1) + (h + 1) := by rw [← Nat.mul_succ]; congr 1; omega
        unfold mu at hm ⊢
        omega
      rw [hfi] at hfree
      refine call_sn (by repeat' first | exact rfl | exact trivial | apply And.intro) hfree ?_
      conv => whnf
      refine call_sn (by repeat' first | exact rfl | exact trivial | apply And.intro) (stShift_ok st h h256 hh.2 s1) ?_
      conv => whnf
      rw [hw]
      refine frameN [0, 1] (stOfSide_rec hh hL hs n (left - 1) (st - onesS 0 h) (by omega) s2 hmu T U ht hg hu hv) rfl (by decide) ⟨rfl, rfl, rfl⟩ rfl ?_
      rintro _ _ ⟨rfl, T', U', ht', hg', hu', hv', gs, rfl⟩
      refine ⟨_, gs, rfl, Nat.le_refl _, rfl, ?_⟩
      conv => whnf
      obtain ⟨rr, vv, hr1, hv1, hrl1⟩ := hu'.get hl hst
      have hgl1 := gx_len U'
      have htl1 := hu'.len
      refine ⟨by omega, by omega, ?_⟩
      conv => whnf
      refine ⟨by rw [hgl1, htl1, hlN]; omega, ElG.mk (fun el hel => ?_)⟩
      obtain ⟨r', hr', rfl⟩ := gx_get hel
      rw [hlN, hr1] at hr'
      obtain rfl := Option.some.inj hr'
      conv => whnf
      refine ⟨by omega, by simp; omega, ?_⟩
      conv => whnf
      refine ⟨trivial, ?_⟩
      refine RowAt.mk' (gx_row' hr1 (by simp)) ?_
      refine ⟨by simp; omega, El.mk (fun el2 hel2 => ?_)⟩
      obtain ⟨v2, _, rfl⟩ := r1_get hel2
      conv => whnf
      refine ⟨by rw [hval], T', U'.set left (rr.set st (Pw side h (left - 1) (st - onesS 0 h)).2), ht', hg', hu'.set hr1, hv'.set hr1 (fun _ => by rw [hval]), [], ?_⟩
      rw [show (0 + ((left : Int)).toNat) * 1 = left * 1 + 0 by simp, show 0 + ((st : Int)).toNat = st by simp]
      exact congrArg (fun z => [(0, OB.grid 1 (gx T')), (0, OB.grid 1 z)]) (gx_set hr1)
    | some y =>
      have hfi : freeI h st = y := by unfold freeI; rw [hf]
      rw [hfi] at hfree
      refine call_sn (by repeat' first | exact rfl | exact trivial | apply And.intro) hfree ?_
      conv => whnf
      obtain ⟨y1, _, _⟩ := freeS_spec hf
      refine .inl ⟨Nat × List (List Int) × List (List Int), fun x => 6 - x.1, fun x => x.1 ≤ h ∧ TabL h L x.2.1 ∧ GoodT h 0 x.2.1 ∧ TabL h L x.2.2 ∧ GoodU side h x.2.2,
        fun x => ⟨[(0, .one (.c (.sl 0 0 1 0 (L + 1) cap1))), (1, .one (.c (.sl 1 0 1 0 (L + 1) cap2))), (2, .one (.c (vI h))), (3, .one (.c (vI left))), (4, .one (.c (vI st))), (5, .one (.c (vI side))), (13, .one (.c (vI y))),
            (14, .one (.c (vI (partE ((1, 0) : Int × Int) (0, 0) (stepP side) h left st y x.1).2))), (15, .one (.c (vI ((x.1 + 1 : Nat) : Int))))],
          [(0, .grid 1 (gx x.2.1)), (0, .grid 1 (gx x.2.2))], _⟩, (0, T, U), ⟨Nat.zero_le _, ht, hg, hu, hv⟩, weak_of rfl ?_ rfl (Nat.le_of_ble_eq_true rfl), ?_⟩
      · (repeat' first | exact rfl | exact trivial | apply And.intro | (simp [getE]; done))
      rintro ⟨i, T1, U1⟩ ⟨hi, ht1, hg1, hu1, hv1⟩
      dsimp only at hi ht1 hg1 hu1 hv1
      have hw1 : IntKind.i64.wrap (((i + 1 : Nat) : Int) + 1) = ((i + 1 + 1 : Nat) : Int) := by rw [wrap_i64 _ (by omega) (by omega)]; omega
      conv => whnf
      refine Br.mk (fun hb3 => ?_) (fun hb3 => ?_) <;> conv => whnf
      · have hlt : i + 1 ≤ h := by simp at hb3; omega
        obtain ⟨P, hP⟩ : ∃ P, P = (partE ((1, 0) : Int × Int) (0, 0) (stepP side) h left st y i).2 := ⟨_, rfl⟩
        have hPw : IntKind.i64.wrap P = P := by rw [hP]; exact partP_wrap i
        have hP1 : (partE ((1, 0) : Int × Int) (0, 0) (stepP side) h left st y (i + 1)).2 = (match nx h left st y (i + 1) with
            | some (a, b) => IntKind.i64.wrap (IntKind.i64.wrap (P + (if i + 1 = side then nxV 0 h left st y (i + 1) else 0)) + (Pw side h a b).2)
            | none => P) := by
          cases hn : nx h left st y (i + 1) with
          | some p =>
            obtain ⟨a, b⟩ := p
            rw [partE_succ _ _ _ hn]
            have hx : nxV 0 h left st y (i + 1) = IntKind.i64.wrap (Vw 0 h a b) := by unfold nxV; rw [hn]
            show IntKind.i64.wrap (IntKind.i64.wrap ((partE ((1, 0) : Int × Int) (0, 0) (stepP side) h left st y i).2 + (if i + 1 = side then (Es (1, 0) (0, 0) (stepP side) h a b).1 else 0)) + (Es (1, 0) (0, 0) (stepP side) h a b).2) = _
            rw [← Pw_eq, Pw_fst, ← hx, ← hP]
          | none =>
            have hp : partE ((1, 0) : Int × Int) (0, 0) (stepP side) h left st y (i + 1) = partE ((1, 0) : Int × Int) (0, 0) (stepP side) h left st y i := by
              conv => lhs; unfold partE
              rw [List.range_succ, List.foldl_append]
              simp only [List.foldl_cons, List.foldl_nil, hn]
              rfl
            rw [hp, ← hP]
        dsimp only
        rw [← hP]
        clear hP
        refine Br.mk (fun hb4 => ?_) (fun hb4 => ?_) <;> conv => whnf
        all_goals first
          | (have hse : i + 1 = side := by simp at hb4; omega
             refine countSide_c (wo := 0) hh hL hl hst (by omega) (by omega) hlt ht1 hg1 rfl fun T2 ht2 hg2 => ?_
             conv => whnf
             obtain ⟨S, hSe⟩ : ∃ S, S = IntKind.i64.wrap (P + nxV 0 h left st y (i + 1)) := ⟨_, rfl⟩
             rw [← hSe]
             have hS : IntKind.i64.wrap S = IntKind.i64.wrap (P + (if i + 1 = side then nxV 0 h left st y (i + 1) else 0)) := by rw [hSe, wrap_wrap, if_pos hse]
             have hS2 : nx h left st y (i + 1) = none → S = P := fun hn => by
               have hx : nxV 0 h left st y (i + 1) = 0 := by unfold nxV; rw [hn]
               rw [hSe, hx, Int.add_zero, hPw])
          | (have hse : ¬ i + 1 = side := by simp at hb4; omega
             obtain ⟨S, hSe⟩ : ∃ S, S = P := ⟨_, rfl⟩
             rw [← hSe]
             have hS : IntKind.i64.wrap S = IntKind.i64.wrap (P + (if i + 1 = side then nxV 0 h left st y (i + 1) else 0)) := by rw [hSe, if_neg hse, Int.add_zero]
             have hS2 : nx h left st y (i + 1) = none → S = P := fun _ => hSe
             obtain ⟨T2, hT2⟩ : ∃ T2, T2 = T1 := ⟨_, rfl⟩
             rw [← hT2] at ht1 hg1 ⊢
             have ht2 := ht1
             have hg2 := hg1)
        all_goals
          refine Br.mk (fun hb5 => ?_) (fun hb5 => ?_) <;> conv => whnf
          · have h4 : i + 1 = 4 := by simp at hb5; omega
            have hno : (¬ (st = 0 ∧ 4 ≤ left)) → nx h left st y (i + 1) = none := fun hc => by unfold nx; rw [if_pos h4, if_neg hc]
            refine Br.mk (fun hb6 => ?_) (fun hb6 => ?_) <;> conv => whnf
            · have hz : st = 0 := by simp at hb6; omega
              refine Br.mk (fun hb7 => ?_) (fun hb7 => ?_) <;> conv => whnf
              · have hl4 : 4 ≤ left := by simp at hb7; omega
                have hn : nx h left st y (i + 1) = some (left - 4, 0) := by unfold nx; rw [if_pos h4, if_pos ⟨hz, hl4⟩]
                have hw : IntKind.i64.wrap ((left : Int) - 4) = ((left - 4 : Nat) : Int) := by rw [wrap_i64 _ (by omega) (by omega)]; omega
                obtain ⟨n1, n2, n3⟩ := nx_mu hh.2 hst (by omega) hlt hn
                have hval : IntKind.i64.wrap (S + (Pw side h (left - 4) 0).2) = (partE ((1, 0) : Int × Int) (0, 0) (stepP side) h left st y (i + 1)).2 := by
                  rw [hP1, hn]
                  show _ = IntKind.i64.wrap (IntKind.i64.wrap (P + (if i + 1 = side then nxV 0 h left st y (i + 1) else 0)) + _)
                  rw [← hS, wrap_left]
                rw [hw]
                refine frameN [0, 1] (stOfSide_rec hh hL hs n (left - 4) 0 (by omega) n2 (by omega) T2 U1 ht2 hg2 hu1 hv1) rfl (by decide) ⟨rfl, rfl, rfl⟩ rfl ?_
                rintro _ _ ⟨rfl, T', U', ht', hg', hu', hv', gs, rfl⟩
                refine ⟨_, gs, rfl, Nat.le_refl _, rfl, ?_⟩
                conv => whnf
                refine ⟨(i + 1, T', U'), ⟨hlt, ht', hg', hu', hv'⟩, (by show 6 - (i + 1) < 6 - i; omega), weak_of rfl ?_ rfl (Nat.le_of_ble_eq_true rfl)⟩
                simp only [hw1, hval]
                (repeat' first | exact rfl | exact trivial | apply And.intro | (simp [getE]; done))
              · have hn := hno (fun hc => by simp at hb7; omega)
                have hval : S = (partE ((1, 0) : Int × Int) (0, 0) (stepP side) h left st y (i + 1)).2 := by rw [hS2 hn, hP1, hn]
                refine ⟨(i + 1, T2, U1), ⟨hlt, ht2, hg2, hu1, hv1⟩, (by show 6 - (i + 1) < 6 - i; omega), weak_of rfl ?_ rfl (Nat.le_of_ble_eq_true rfl)⟩
                simp only [hw1, ← hval]
                (repeat' first | exact rfl | exact trivial | apply And.intro | (simp [getE]; done))
            · have hn := hno (fun hc => by simp at hb6; omega)
              have hval : S = (partE ((1, 0) : Int × Int) (0, 0) (stepP side) h left st y (i + 1)).2 := by rw [hS2 hn, hP1, hn]
              refine ⟨(i + 1, T2, U1), ⟨hlt, ht2, hg2, hu1, hv1⟩, (by show 6 - (i + 1) < 6 - i; omega), weak_of rfl ?_ rfl (Nat.le_of_ble_eq_true rfl)⟩
              simp only [hw1, ← hval]
              (repeat' first | exact rfl | exact trivial | apply And.intro | (simp [getE]; done))
          · have h4 : ¬ i + 1 = 4 := by simp at hb5; omega
            refine call_sn (by repeat' first | exact rfl | exact trivial | apply And.intro) (stPut_ok st h left y (i + 1) h256 hh.2 (by omega) (by omega) (by omega) (by omega)) ?_
            conv => whnf
            cases hp : putS h left st y (i + 1) with
            | none =>
              have hv0 : putV h left st y (i + 1) = (0, false) := by unfold putV; rw [hp]
              have hn : nx h left st y (i + 1) = none := by unfold nx; rw [if_neg h4, hp]; rfl
              have hval : S = (partE ((1, 0) : Int × Int) (0, 0) (stepP side) h left st y (i + 1)).2 := by rw [hS2 hn, hP1, hn]
              rw [hv0]
              conv => whnf
              refine ⟨(i + 1, T2, U1), ⟨hlt, ht2, hg2, hu1, hv1⟩, (by show 6 - (i + 1) < 6 - i; omega), weak_of rfl ?_ rfl (Nat.le_of_ble_eq_true rfl)⟩
              simp only [hw1, ← hval]
              (repeat' first | exact rfl | exact trivial | apply And.intro | (simp [getE]; done))
            | some s =>
              have hv0 : putV h left st y (i + 1) = ((s : Int), true) := by unfold putV; rw [hp]
              have hn : nx h left st y (i + 1) = some (left, s) := by unfold nx; rw [if_neg h4, hp]; rfl
              obtain ⟨n1, n2, n3⟩ := nx_mu hh.2 hst (by omega) hlt hn
              have hval : IntKind.i64.wrap (S + (Pw side h left s).2) = (partE ((1, 0) : Int × Int) (0, 0) (stepP side) h left st y (i + 1)).2 := by
                rw [hP1, hn]
                show _ = IntKind.i64.wrap (IntKind.i64.wrap (P + (if i + 1 = side then nxV 0 h left st y (i + 1) else 0)) + _)
                rw [← hS, wrap_left]
              rw [hv0]
              conv => whnf
              refine frameN [0, 1] (stOfSide_rec hh hL hs n left s hl n2 (by omega) T2 U1 ht2 hg2 hu1 hv1) rfl (by decide) ⟨rfl, rfl, rfl⟩ rfl ?_
              rintro _ _ ⟨rfl, T', U', ht', hg', hu', hv', gs, rfl⟩
              refine ⟨_, gs, rfl, Nat.le_refl _, rfl, ?_⟩
              conv => whnf
              refine ⟨(i + 1, T', U'), ⟨hlt, ht', hg', hu', hv'⟩, (by show 6 - (i + 1) < 6 - i; omega), weak_of rfl ?_ rfl (Nat.le_of_ble_eq_true rfl)⟩
              simp only [hw1, hval]
              (repeat' first | exact rfl | exact trivial | apply And.intro | (simp [getE]; done))
      · have hih : i = h := by simp at hb3; omega
        have hval : Pw side h left st = partE ((1, 0) : Int × Int) (0, 0) (stepP side) h left st y i := by
          rw [Pw_eq, hih]
          exact Es_put _ _ _ hh.2 (by omega) hst h0 hf
        obtain ⟨rr, vv, hr1, hv1', hrl1⟩ := hu1.get hl hst
        have hgl1 := gx_len U1
        have htl1 := hu1.len
        refine ⟨by omega, by omega, ?_⟩
        conv => whnf
        refine ⟨by rw [hgl1, htl1, hlN]; omega, ElG.mk (fun el hel => ?_)⟩
        obtain ⟨r', hr', rfl⟩ := gx_get hel
        rw [hlN, hr1] at hr'
        obtain rfl := Option.some.inj hr'
        conv => whnf
        refine ⟨by omega, by simp; omega, ?_⟩
        conv => whnf
        refine ⟨trivial, ?_⟩
        refine RowAt.mk' (gx_row' hr1 (by simp)) ?_
        refine ⟨by simp; omega, El.mk (fun el2 hel2 => ?_)⟩
        obtain ⟨v2, _, rfl⟩ := r1_get hel2
        conv => whnf
        refine ⟨by rw [hval], T1, U1.set left (rr.set st (partE ((1, 0) : Int × Int) (0, 0) (stepP side) h left st y i).2), ht1, hg1, hu1.set hr1, hv1.set hr1 (fun _ => by rw [hval]), [], ?_⟩
        rw [show (0 + ((left : Int)).toNat) * 1 = left * 1 + 0 by simp, show 0 + ((st : Int)).toNat = st by simp]
        exact congrArg (fun z => [(0, OB.grid 1 (gx T1)), (0, OB.grid 1 z)]) (gx_set hr1)

end Go.Proofs.Ytnmeehiahlfgaaa

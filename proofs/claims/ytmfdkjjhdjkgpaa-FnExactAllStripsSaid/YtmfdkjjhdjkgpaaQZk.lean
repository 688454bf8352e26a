/- Strips: the reference's table of ways. -/
import Derived.Test.YtmfdkjjhdjkgpaaQZj
namespace Go.Proofs.Ytmfdkjjhdjkgpaa
open Go Go.RowKit
set_option maxRecDepth 10000
set_option linter.unusedSimpArgs false

/-- A table of numbers, as rows of one's own. -/
def gx (T : List (List Int)) : List (List GC) := T.map fun r => [GC.row 1 (r.map r1)]

theorem gx_get {T : List (List Int)} {i : Nat} {x : List GC} (h : (gx T)[i]? = some x) : ∃ r, T[i]? = some r ∧ x = [GC.row 1 (r.map r1)] := by
  unfold gx at h
  simp only [List.getElem?_map, Option.map_eq_some_iff] at h
  obtain ⟨r, h1, rfl⟩ := h
  exact ⟨r, h1, rfl⟩

theorem gx_row {T : List (List Int)} {i : Nat} {r : List Int} (h : T[i]? = some r) : rowAt 1 (gx T) (i * 1 + 0) = some (1, r.map r1) := by
  unfold rowAt gx
  rw [Nat.mul_one, Nat.add_zero, Nat.div_one, Nat.mod_one]
  simp [h]

theorem gx_row' {T : List (List Int)} {i p : Nat} {r : List Int} (h : T[i]? = some r) (hp : p = i) : rowAt 1 (gx T) p = some (1, r.map r1) := by
  have := gx_row h
  rwa [show i * 1 + 0 = p by omega] at this

theorem gx_set {T : List (List Int)} {i j : Nat} {r : List Int} {v : Int} (h : T[i]? = some r) : setG 1 (gx T) (i * 1 + 0) (.row 1 ((r.map r1).set j [dI v])) = gx (T.set i (r.set j v)) := by
  unfold setG
  rw [Nat.mul_one, Nat.add_zero, Nat.div_one, Nat.mod_one]
  have : (gx T)[i]? = some [GC.row 1 (r.map r1)] := by unfold gx; simp [h]
  rw [this]
  unfold gx
  simp only [List.set_cons_zero, List.map_set]
  rfl

theorem gx_len (T : List (List Int)) : (gx T).length = T.length := by simp [gx]

structure TabL (h L : Nat) (T : List (List Int)) : Prop where
  len : T.length = L + 1
  row : ∀ r ∈ T, r.length = 4 ^ h

def GoodT (h wo : Nat) (T : List (List Int)) : Prop := ∀ (left st : Nat) r v, T[left]? = some r → r[st]? = some v → 0 ≤ v → v = IntKind.i64.wrap (Vw wo h left st)

theorem TabL.get {h L : Nat} {T : List (List Int)} (ht : TabL h L T) {left st : Nat} (hl : left ≤ L) (hs : st < 4 ^ h) : ∃ r v, T[left]? = some r ∧ r[st]? = some v ∧ r.length = 4 ^ h := by
  have h1 : left < T.length := by rw [ht.len]; omega
  have h2 := ht.row _ (List.getElem_mem h1)
  exact ⟨T[left], T[left][st], List.getElem?_eq_getElem h1, List.getElem?_eq_getElem (by omega), h2⟩

theorem TabL.set {h L : Nat} {T : List (List Int)} (ht : TabL h L T) {left st : Nat} {r : List Int} {v : Int} (hr : T[left]? = some r) : TabL h L (T.set left (r.set st v)) := by
  refine ⟨by rw [List.length_set]; exact ht.len, fun x hx => ?_⟩
  rcases List.mem_or_eq_of_mem_set hx with hx | rfl
  · exact ht.row x hx
  · rw [List.length_set]; exact ht.row r (List.mem_of_getElem? hr)

theorem GoodT.set {h wo : Nat} {T : List (List Int)} (hg : GoodT h wo T) {left st : Nat} {r : List Int} {v : Int} (hr : T[left]? = some r) (hv : 0 ≤ v → v = IntKind.i64.wrap (Vw wo h left st)) : GoodT h wo (T.set left (r.set st v)) := by
  intro left' st' r' v' hr' hv' h0
  rw [List.getElem?_set] at hr'
  split at hr'
  · rename_i e
    subst e
    split at hr'
    · obtain rfl := Option.some.inj hr'
      rw [List.getElem?_set] at hv'
      split at hv'
      · rename_i e
        subst e
        split at hv'
        · obtain rfl := Option.some.inj hv'
          exact hv h0
        · cases hv'
      · exact hg _ _ _ _ hr hv' h0
    · cases hr'
  · exact hg _ _ _ _ hr' hv' h0

noncomputable def nxV (wo h left st r side : Nat) : Int := match nx h left st r side with
  | some (l, s) => IntKind.i64.wrap (Vw wo h l s)
  | none => 0

/-- What a call for a state answers, whatever the table holds. -/
def CountOK (h L wo left st : Nat) (cap : Option Nat) : Prop := ∀ T, TabL h L T → GoodT h wo T →
  CallX G.P 82 [.c (.sl 0 0 1 0 (L + 1) cap), .c (vI h), .c (vI left), .c (vI st), .c (vI wo)] [(0, .grid 1 (gx T))]
    (fun sv objs1 => sv = .one (.c (vI (IntKind.i64.wrap (Vw wo h left st)))) ∧ ∃ T' gs, TabL h L T' ∧ GoodT h wo T' ∧ objs1 = (0, .grid 1 (gx T')) :: gs)

theorem stCountSide_of {h L wo left st r side : Nat} {cap : Option Nat} (hh : 1 ≤ h ∧ h < 5) (hl : left ≤ 30) (hst : st < 4 ^ h) (hr : r < 4) (h1 : 1 ≤ side) (hs : side ≤ h)
    (ih : ∀ l s, nx h left st r side = some (l, s) → CountOK h L wo l s cap) {T : List (List Int)} (ht : TabL h L T) (hg : GoodT h wo T) :
    CallX G.P 87 [.c (.sl 0 0 1 0 (L + 1) cap), .c (vI h), .c (vI left), .c (vI st), .c (vI r), .c (vI side), .c (vI wo)] [(0, .grid 1 (gx T))]
      (fun sv objs1 => sv = .one (.c (vI (nxV wo h left st r side))) ∧ ∃ T' gs, TabL h L T' ∧ GoodT h wo T' ∧ objs1 = (0, .grid 1 (gx T')) :: gs) := by
  have h256 := Nat.lt_of_lt_of_le hst (pow_le256 hh.2)
  refine call_body (G := G) Try.func87 rfl (by decide) (Nat.le_of_ble_eq_true rfl) ?_
  conv => whnf
  refine Br.mk (fun hb => ?_) (fun hb => ?_) <;> conv => whnf
  · have h4 : side = 4 := by simp at hb; omega
    refine Br.mk (fun hb1 => ?_) (fun hb1 => ?_) <;> conv => whnf
    · have hz : ¬ st = 0 := by simp at hb1; omega
      have e : nxV wo h left st r side = 0 := by unfold nxV nx; rw [if_pos h4, if_neg (fun hc => hz hc.1)]
      rw [e]
      exact ⟨rfl, T, _, ht, hg, rfl⟩
    have hz : st = 0 := by simp at hb1; omega
    refine Br.mk (fun hb2 => ?_) (fun hb2 => ?_) <;> conv => whnf
    · have hl4 : left < 4 := by simp at hb2; omega
      have e : nxV wo h left st r side = 0 := by unfold nxV nx; rw [if_pos h4, if_neg (fun hc => by omega)]
      rw [e]
      exact ⟨rfl, T, _, ht, hg, rfl⟩
    have hl4 : ¬ left < 4 := by simp at hb2; omega
    have hn : nx h left st r side = some (left - 4, 0) := by unfold nx; rw [if_pos h4, if_pos ⟨hz, by omega⟩]
    have e : nxV wo h left st r side = IntKind.i64.wrap (Vw wo h (left - 4) 0) := by unfold nxV; rw [hn]
    have hw : IntKind.i64.wrap ((left : Int) - 4) = ((left - 4 : Nat) : Int) := by rw [wrap_i64 _ (by omega) (by omega)]; omega
    rw [hw, e]
    refine callX_drop (objs := [(0, .grid 1 (gx T))]) (gs := []) (ih _ _ hn T ht hg) rfl ?_
    rintro _ _ ⟨rfl, T', gs', ht', hg', rfl⟩ _
    refine ⟨rfl, ?_⟩
    conv => whnf
    exact ⟨rfl, T', _, ht', hg', rfl⟩
  · have h4 : ¬ side = 4 := by simp at hb; omega
    refine call_sn (by repeat' first | exact rfl | exact trivial | apply And.intro) (stPut_ok st h left r side h256 hh.2 hl hr h1 (by omega)) ?_
    conv => whnf
    cases hp : putS h left st r side with
    | none =>
      have hv : putV h left st r side = (0, false) := by unfold putV; rw [hp]
      have e : nxV wo h left st r side = 0 := by unfold nxV nx; rw [if_neg h4, hp]; rfl
      rw [hv, e]
      conv => whnf
      exact ⟨rfl, T, _, ht, hg, rfl⟩
    | some s =>
      have hv : putV h left st r side = ((s : Int), true) := by unfold putV; rw [hp]
      have hn : nx h left st r side = some (left, s) := by unfold nx; rw [if_neg h4, hp]; rfl
      have e : nxV wo h left st r side = IntKind.i64.wrap (Vw wo h left s) := by unfold nxV; rw [hn]
      rw [hv, e]
      conv => whnf
      refine callX_drop (objs := [(0, .grid 1 (gx T))]) (gs := []) (ih _ _ hn T ht hg) rfl ?_
      rintro _ _ ⟨rfl, T', gs', ht', hg', rfl⟩ _
      refine ⟨rfl, ?_⟩
      conv => whnf
      exact ⟨rfl, T', _, ht', hg', rfl⟩

theorem stCount_rec {h L wo : Nat} {cap : Option Nat} (hh : 1 ≤ h ∧ h < 5) (hL : L ≤ 30) : ∀ (n left st : Nat), left ≤ L → st < 4 ^ h → mu h left st < n → CountOK h L wo left st cap
  | 0, _, _, _, _, hm => by omega
  | n + 1, left, st, hl, hst, hm => by
    intro T ht hg
    have h256 := Nat.lt_of_lt_of_le hst (pow_le256 hh.2)
    obtain ⟨r, v, hr, hv, hrl⟩ := ht.get hl hst
    have hgl := gx_len T
    have htl := ht.len
    refine call_body (G := G) Try.func82 rfl (by decide) (Nat.le_of_ble_eq_true rfl) ?_
    conv => whnf
    refine Br.mk (fun hb => ?_) (fun hb => ?_) <;> conv => whnf
    · have h0 : left = 0 := by simp at hb; omega
      refine Br.mk (fun hb1 => ?_) (fun hb1 => ?_) <;> conv => whnf
      · have hz : st = 0 := by simp at hb1; omega
        have e : Vw wo h left st = 1 := by rw [Vw_eq, h0, hz]; exact Es_zero _ _ _
        rw [e]
        exact ⟨rfl, T, _, ht, hg, rfl⟩
      · have hz : ¬ st = 0 := by simp at hb1; omega
        have e : Vw wo h left st = 0 := by
          rw [Vw_eq, h0]
          unfold Es; rw [Ev, if_pos rfl, if_neg hz]
        rw [e]
        exact ⟨rfl, T, _, ht, hg, rfl⟩
    have h0 : ¬ left = 0 := by simp at hb; omega
    have hlN : 0 + ((left : Int)).toNat = left := by simp
    refine ⟨by omega, by omega, ?_⟩
    conv => whnf
    refine ⟨by rw [gx_len, ht.len, hlN]; omega, ElG.mk (fun el hel => ?_)⟩
    obtain ⟨r', hr', rfl⟩ := gx_get hel
    rw [hlN, hr] at hr'
    obtain rfl := Option.some.inj hr'
    conv => whnf
    refine ⟨by omega, by simp; omega, ?_⟩
    conv => whnf
    refine RowAt.mk' (gx_row' hr (by simp)) ?_
    refine ⟨by simp; omega, El.mk (fun el2 hel2 => ?_)⟩
    obtain ⟨v', hv', rfl⟩ := r1_get hel2
    have hv2 : v' = v := by simp at hv'; rw [hv] at hv'; exact (Option.some.inj hv').symm
    subst hv2
    conv => whnf
    refine Br.mk (fun hb1 => ?_) (fun hb1 => ?_) <;> conv => whnf
    · -- known
      refine ⟨by omega, by omega, ?_⟩
      conv => whnf
      refine ⟨by rw [gx_len, ht.len, hlN]; omega, ElG.mk (fun el hel => ?_)⟩
      obtain ⟨r', hr', rfl⟩ := gx_get hel
      rw [hlN, hr] at hr'
      obtain rfl := Option.some.inj hr'
      conv => whnf
      refine ⟨by omega, by simp; omega, ?_⟩
      conv => whnf
      refine RowAt.mk' (gx_row' hr (by simp)) ?_
      refine ⟨by simp; omega, El.mk (fun el2 hel2 => ?_)⟩
      obtain ⟨v'', hv'', rfl⟩ := r1_get hel2
      have hv3 : v'' = v' := by simp at hv''; rw [hv] at hv''; exact (Option.some.inj hv'').symm
      subst hv3
      conv => whnf
      have hge : 0 ≤ v'' := by simpa using hb1
      exact ⟨by rw [← hg left st r v'' hr hv hge], T, _, ht, hg, rfl⟩
    have hfree := stFree_ok st h h256 hh.2
    cases hf : freeS h st with
    | none =>
      have hfi : freeI h st = -1 := by unfold freeI; rw [hf]
      obtain ⟨s1, s2⟩ := shift_lt h hh.2 st h256 hst hf
      have hw : IntKind.i64.wrap ((left : Int) - 1) = ((left - 1 : Nat) : Int) := by rw [wrap_i64 _ (by omega) (by omega)]; omega
      have hval : Vw wo h left st = Vw wo h (left - 1) (st - onesS 0 h) := by rw [Vw_eq, Vw_eq]; exact Es_shift _ _ _ hh.2 (by omega) hst h0 hf
      have hmu : mu h (left - 1) (st - onesS 0 h) < n := by
        have hz := zer_le h (st - onesS 0 h)
        have e : (h + 1) * left = (h + 1) * (left - 1) + (h + 1) := by rw [← Nat.mul_succ]; congr 1; omega
        unfold mu at hm ⊢
        omega
      rw [hfi] at hfree
      refine call_sn (by repeat' first | exact rfl | exact trivial | apply And.intro) hfree ?_
      conv => whnf
      refine call_sn (by repeat' first | exact rfl | exact trivial | apply And.intro) (stShift_ok st h h256 hh.2 s1) ?_
      conv => whnf
      rw [hw]
      refine callX_drop (objs := [(0, .grid 1 (gx T))]) (gs := []) (stCount_rec hh hL n (left - 1) (st - onesS 0 h) (by omega) s2 hmu T ht hg) rfl ?_
      rintro _ _ ⟨rfl, T', gs', ht', hg', rfl⟩ _
      refine ⟨rfl, ?_⟩
      conv => whnf
      obtain ⟨rr, vv, hr1, hv1, hrl1⟩ := ht'.get hl hst
      have hgl1 := gx_len T'
      have htl1 := ht'.len
      refine ⟨by omega, by omega, ?_⟩
      conv => whnf
      refine ⟨by rw [hgl1, htl1, hlN]; omega, ElG.mk (fun el hel => ?_)⟩
      obtain ⟨r', hr', rfl⟩ := gx_get hel
      rw [hlN, hr1] at hr'
      obtain rfl := Option.some.inj hr'
      conv => whnf
      refine ⟨by omega, by simp; omega, ?_⟩
      conv => whnf
      refine ⟨trivial, ?_⟩
      refine RowAt.mk' (gx_row' hr1 (by simp)) ?_
      refine ⟨by simp; omega, El.mk (fun el2 hel2 => ?_)⟩
      obtain ⟨v2, _, rfl⟩ := r1_get hel2
      conv => whnf
      refine ⟨by rw [hval], T'.set left (rr.set st (IntKind.i64.wrap (Vw wo h (left - 1) (st - onesS 0 h)))), [], ht'.set hr1, hg'.set hr1 (fun _ => by rw [hval]), ?_⟩
      rw [show (0 + ((left : Int)).toNat) * 1 = left * 1 + 0 by simp, show 0 + ((st : Int)).toNat = st by simp]
      exact congrArg (fun z => [(0, OB.grid 1 z)]) (gx_set hr1)
    | some y =>
      have hfi : freeI h st = y := by unfold freeI; rw [hf]
      rw [hfi] at hfree
      refine call_sn (by repeat' first | exact rfl | exact trivial | apply And.intro) hfree ?_
      conv => whnf
      obtain ⟨y1, _, _⟩ := freeS_spec hf
      refine .inl ⟨Nat × List (List Int), fun x => 6 - x.1, fun x => x.1 ≤ h ∧ TabL h L x.2 ∧ GoodT h wo x.2,
        fun x => ⟨[(0, .one (.c (.sl 0 0 1 0 (L + 1) cap))), (1, .one (.c (vI h))), (2, .one (.c (vI left))), (3, .one (.c (vI st))), (4, .one (.c (vI wo))), (11, .one (.c (vI y))), (12, .one (.c (vI (IntKind.i64.wrap (partE (1 : Int) 0 (stepV wo) h left st y x.1))))), (13, .one (.c (vI ((x.1 + 1 : Nat) : Int))))],
          [(0, .grid 1 (gx x.2))], _⟩, (0, T), ⟨Nat.zero_le _, ht, hg⟩, weak_of rfl ?_ rfl (Nat.le_of_ble_eq_true rfl), ?_⟩
      · (repeat' first | exact rfl | exact trivial | apply And.intro | (simp [getE]; done))
      rintro ⟨i, T1⟩ ⟨hi, ht1, hg1⟩
      replace hi : i ≤ h := hi
      replace ht1 : TabL h L T1 := ht1
      replace hg1 : GoodT h wo T1 := hg1
      have hw1 : IntKind.i64.wrap (((i + 1 : Nat) : Int) + 1) = ((i + 1 + 1 : Nat) : Int) := by rw [wrap_i64 _ (by omega) (by omega)]; omega
      conv => whnf
      refine Br.mk (fun hb3 => ?_) (fun hb3 => ?_) <;> conv => whnf
      · have hlt : i + 1 ≤ h := by simp at hb3; omega
        refine Br.mk (fun hb4 => ?_) (fun hb4 => ?_) <;> conv => whnf
        · have he : i + 1 = wo := by simp at hb4; omega
          refine ⟨(i + 1, T1), ⟨hlt, ht1, hg1⟩, by show 6 - (i + 1) < 6 - i; omega, weak_of rfl ?_ rfl (Nat.le_of_ble_eq_true rfl)⟩
          have hval : partE (1 : Int) 0 (stepV wo) h left st y (i + 1) = partE (1 : Int) 0 (stepV wo) h left st y i := by
            have e : ∀ u v : Int, stepV wo (i + 1) u v = u := fun u v => if_pos he
            unfold partE
            rw [List.range_succ, List.foldl_append]
            simp only [List.foldl_cons, List.foldl_nil, e]
            split <;> rfl
          simp only [hw1, hval]
          (repeat' first | exact rfl | exact trivial | apply And.intro | (simp [getE]; done))
        · have hne : ¬ i + 1 = wo := by simp at hb4; omega
          have hval : IntKind.i64.wrap (IntKind.i64.wrap (partE (1 : Int) 0 (stepV wo) h left st y i) + nxV wo h left st y (i + 1)) = IntKind.i64.wrap (partE (1 : Int) 0 (stepV wo) h left st y (i + 1)) := by
            have e : ∀ u v : Int, stepV wo (i + 1) u v = u + v := fun u v => if_neg hne
            cases hn : nx h left st y (i + 1) with
            | some p =>
              obtain ⟨l', s'⟩ := p
              have hx : nxV wo h left st y (i + 1) = IntKind.i64.wrap (Vw wo h l' s') := by unfold nxV; rw [hn]
              rw [hx, wrap_add, partE_succ _ _ _ hn, e, Vw_eq]
            | none =>
              have hx : nxV wo h left st y (i + 1) = 0 := by unfold nxV; rw [hn]
              have hp : partE (1 : Int) 0 (stepV wo) h left st y (i + 1) = partE (1 : Int) 0 (stepV wo) h left st y i := by
                conv => lhs; unfold partE
                rw [List.range_succ, List.foldl_append]
                simp only [List.foldl_cons, List.foldl_nil, hn]
                rfl
              rw [hx, Int.add_zero, wrap_wrap, hp]
          have hcs := stCountSide_of (L := L) (wo := wo) (left := left) (st := st) (r := y) (side := i + 1) (cap := cap) hh (by omega) hst (by omega) (by omega) hlt (fun l' s' hn => by
            obtain ⟨n1, n2, n3⟩ := nx_mu hh.2 hst (by omega) hlt hn
            exact stCount_rec hh hL n l' s' (by omega) n2 (by omega)) ht1 hg1
          refine callX_drop (objs := [(0, .grid 1 (gx T1))]) (gs := []) hcs rfl ?_
          rintro _ _ ⟨rfl, T2, gs2, ht2, hg2, rfl⟩ _
          refine ⟨rfl, ?_⟩
          conv => whnf
          all_goals (refine ⟨(i + 1, T2), ⟨hlt, ht2, hg2⟩, by show 6 - (i + 1) < 6 - i; omega, weak_of rfl ?_ rfl (Nat.le_of_ble_eq_true rfl)⟩)
          all_goals (simp only [hw1, hval])
          all_goals (repeat' first | exact rfl | exact trivial | apply And.intro | (simp [getE]; done))
      · have hih : i = h := by simp at hb3; omega
        have hval : Vw wo h left st = partE (1 : Int) 0 (stepV wo) h left st y i := by
          rw [Vw_eq, hih]
          exact Es_put _ _ _ hh.2 (by omega) hst h0 hf
        obtain ⟨rr, vv, hr1, hv1, hrl1⟩ := ht1.get hl hst
        have hgl1 := gx_len T1
        have htl1 := ht1.len
        refine ⟨by omega, by omega, ?_⟩
        conv => whnf
        refine ⟨by rw [hgl1, htl1, hlN]; omega, ElG.mk (fun el hel => ?_)⟩
        obtain ⟨r', hr', rfl⟩ := gx_get hel
        rw [hlN, hr1] at hr'
        obtain rfl := Option.some.inj hr'
        conv => whnf
        refine ⟨by omega, by simp; omega, ?_⟩
        conv => whnf
        refine ⟨trivial, ?_⟩
        refine RowAt.mk' (gx_row' hr1 (by simp)) ?_
        refine ⟨by simp; omega, El.mk (fun el2 hel2 => ?_)⟩
        obtain ⟨v2, _, rfl⟩ := r1_get hel2
        conv => whnf
        refine ⟨by rw [hval], T1.set left (rr.set st (IntKind.i64.wrap (partE (1 : Int) 0 (stepV wo) h left st y i))), [], ht1.set hr1, hg1.set hr1 (fun _ => by rw [hval]), ?_⟩
        rw [show (0 + ((left : Int)).toNat) * 1 = left * 1 + 0 by simp, show 0 + ((st : Int)).toNat = st by simp]
        exact congrArg (fun z => [(0, OB.grid 1 z)]) (gx_set hr1)

end Go.Proofs.Ytmfdkjjhdjkgpaa

namespace Go.Proofs.Ytmfdkjjhdjkgpaa
open Go Go.RowKit
set_option maxRecDepth 10000
set_option linter.unusedSimpArgs false

/-- A table of which some rows are not made yet. -/
def gmix (T : List (List Int)) (k : Nat) : List (List GC) := gx T ++ List.replicate k [GC.d (.v (.slice none 0 0))]

theorem gmix_len (T : List (List Int)) (k : Nat) : (gmix T k).length = T.length + k := by simp [gmix, gx]

theorem gmix_next {T : List (List Int)} {k : Nat} : (gmix T (k + 1))[T.length]? = some [GC.d (.v (.slice none 0 0))] := by
  unfold gmix
  rw [List.getElem?_append_right (by simp [gx])]
  simp [gx, List.replicate_succ]

theorem gmix_put {T : List (List Int)} {k : Nat} {r : List Int} : (gmix T (k + 1)).set T.length [GC.row 1 (r.map r1)] = gmix (T ++ [r]) k := by
  unfold gmix
  rw [List.set_append_right _ _ (by simp [gx])]
  simp [gx, List.replicate_succ]

theorem gmix_last {T : List (List Int)} {k : Nat} {r : List Int} : (gmix (T ++ [r]) k)[T.length]? = some [GC.row 1 (r.map r1)] := by
  unfold gmix
  rw [List.getElem?_append_left (by simp [gx])]
  simp [gx]

theorem gmix_row {T : List (List Int)} {k p : Nat} {r : List Int} (hp : p = T.length) : rowAt 1 (gmix (T ++ [r]) k) p = some (1, r.map r1) := by
  unfold rowAt
  rw [Nat.div_one, Nat.mod_one, hp, gmix_last]
  rfl

theorem gmix_set {T : List (List Int)} {k p j : Nat} {r : List Int} {v : Int} (hp : p = T.length) : setG 1 (gmix (T ++ [r]) k) p (.row 1 ((r.map r1).set j [dI v])) = gmix (T ++ [r.set j v]) k := by
  unfold setG
  rw [Nat.div_one, Nat.mod_one, hp, gmix_last]
  unfold gmix
  simp only [List.set_cons_zero]
  rw [List.set_append_left _ _ (by simp [gx])]
  congr 1
  unfold gx
  rw [List.map_append, List.set_append_right _ _ (by simp)]
  simp only [List.length_map, Nat.sub_self, List.map_cons, List.map_nil, List.set_cons_zero, List.map_set, List.map_append]
  rfl

def rowJ (n j : Nat) : List Int := List.replicate j (-1) ++ List.replicate (n - j) 0

theorem rowJ_set {n j : Nat} (hj : j < n) : (rowJ n j).set j (-1) = rowJ n (j + 1) := by
  unfold rowJ
  rw [List.set_append_right _ _ (by simp), List.length_replicate, Nat.sub_self, show n - j = (n - (j + 1)) + 1 by omega, List.replicate_succ, List.set_cons_zero, List.replicate_succ']
  simp

theorem rowJ_len {n j : Nat} (hj : j ≤ n) : (rowJ n j).length = n := by simp [rowJ]; omega

theorem stWays_x {h L wo : Nat} (hh : 1 ≤ h ∧ h < 5) (hL : L ≤ 30) : CallX G.P 83 [.c (vI h), .c (vI L), .c (vI wo)] []
    (fun sv objs1 => ∃ T gs, TabL h L T ∧ GoodT h wo T ∧ sv = .one (.c (.sl 0 0 1 0 (L + 1) (some (L + 1)))) ∧ objs1 = (0, .grid 1 (gx T)) :: gs) := by
  have hw0 : IntKind.i64.wrap ((L : Int) + 1) = ((L + 1 : Nat) : Int) := by rw [wrap_i64 _ (by omega) (by omega)]; omega
  have h256 := pow_le256 hh.2
  have hsh : (0 : Int) ≤ IntKind.i64.wrap (2 * (h : Int)) ∧ IntKind.i64.wrap (1 * (2 : Int) ^ (min (IntKind.i64.wrap (2 * (h : Int))).toNat IntKind.i64.bits : Nat)) = ((4 ^ h : Nat) : Int) := by
    have : ∀ k : Nat, k < 5 → IntKind.i64.wrap (1 * (2 : Int) ^ (min (IntKind.i64.wrap (2 * (k : Int))).toNat IntKind.i64.bits : Nat)) = ((4 ^ k : Nat) : Int) := by decide
    exact ⟨by rw [wrap_i64 _ (by omega) (by omega)]; omega, this h hh.2⟩
  refine call_body (G := G) Try.func83 rfl (by decide) (Nat.le_of_ble_eq_true rfl) ?_
  conv => whnf
  rw [hw0]
  refine ⟨by omega, by omega, by simp; omega, by omega, .inl ?_⟩
  conv => whnf
  refine .inl ⟨Nat, fun i => 40 - i, fun i => i ≤ L + 1,
    fun i => ⟨[(0, .one (.c (vI h))), (1, .one (.c (vI L))), (2, .one (.c (vI wo))), (7, .one (.c (.sl 0 0 1 0 (L + 1) (some (L + 1))))), (8, .one (.c (vI i)))],
      [(0, .grid 1 (gmix (List.replicate i (rowJ (4 ^ h) (4 ^ h))) (L + 1 - i)))], _⟩, 0, Nat.zero_le _, weak_of rfl ?_ rfl (Nat.zero_le _), ?_⟩
  · (repeat' first | exact rfl | exact trivial | apply And.intro | (simp [getE]; done))
  intro i hi
  replace hi : i ≤ L + 1 := hi
  conv => whnf
  refine Br.mk (fun hb => ?_) (fun hb => ?_) <;> conv => whnf
  · have hlt : i < L + 1 := by simp at hb; omega
    obtain ⟨k, hk⟩ : ∃ k, L + 1 - i = k + 1 := ⟨L - i, by omega⟩
    generalize hT : List.replicate i (rowJ (4 ^ h) (4 ^ h)) = T
    have hTl : T.length = i := by rw [← hT]; simp
    refine ⟨hsh.1, ?_⟩
    conv => whnf
    have hz : IntKind.i64.wrap (1 * (2 : Int) ^ (min (IntKind.i64.wrap (2 * (h : Int))).toNat IntKind.i64.bits : Nat)) = ((4 ^ h : Nat) : Int) := hsh.2
    rw [hz]
    have hp : 0 < 4 ^ h := Nat.pow_pos (by omega)
    refine ⟨by omega, by omega, by show ((4 ^ h : Nat) : Int) * 8 ≤ 2 ^ 46; omega, by omega, ?_⟩
    conv => whnf
    refine ⟨by omega, by omega, ?_⟩
    conv => whnf
    have hiN : 0 + ((i : Int)).toNat = T.length := by simp [hTl]
    refine ⟨by rw [gmix_len, hTl]; simp; omega, by simp, ElG.mk (fun el hel => ?_)⟩
    rw [hk, hiN, gmix_next] at hel
    obtain rfl := Option.some.inj hel
    refine ⟨rfl, ?_⟩
    conv => whnf
    have hrow0 : List.take (((4 ^ h : Nat) : Int)).toNat (List.replicate (((4 ^ h : Nat) : Int)).toNat [DC.v (.int .i64 0)]) = (rowJ (4 ^ h) 0).map r1 := by
      rw [Int.toNat_natCast]
      generalize 4 ^ h = N
      simp [rowJ, r1]
    rw [hk, hiN, hrow0, gmix_put]
    refine ⟨by omega, by omega, ?_⟩
    conv => whnf
    refine ⟨by rw [gmix_len]; simp; omega, ElG.mk (fun el2 hel2 => ?_)⟩
    rw [gmix_last] at hel2
    obtain rfl := Option.some.inj hel2
    conv => whnf
    generalize hN : 4 ^ h = N
    rw [hN] at h256 hp hT
    refine .inl ⟨Nat, fun j => 300 - j, fun j => j ≤ N,
      fun j => ⟨[(0, .one (.c (vI h))), (1, .one (.c (vI L))), (2, .one (.c (vI wo))), (7, .one (.c (.sl 0 0 1 0 (L + 1) (some (L + 1))))), (8, .one (.c (vI i))), (29, .one (.c (vI (N : Nat)))), (30, .one (.c (vI j)))],
        [(0, .grid 1 (gmix (T ++ [rowJ N j]) k))], _⟩, 0, Nat.zero_le _, weak_of rfl ?_ rfl (Nat.zero_le _), ?_⟩
    · rw [List.length_map, rowJ_len (Nat.zero_le _)]
      (repeat' first | exact rfl | exact trivial | apply And.intro | (simp [getE]; done))
    intro j hj
    replace hj : j ≤ N := hj
    conv => whnf
    refine Br.mk (fun hb1 => ?_) (fun hb1 => ?_) <;> conv => whnf
    · have hjl : j < N := by simp at hb1; omega
      have hj1 : IntKind.i64.wrap ((j : Int) + 1) = ((j + 1 : Nat) : Int) := by rw [wrap_i64 _ (by omega) (by omega)]; omega
      refine ⟨by omega, by omega, ?_⟩
      conv => whnf
      refine ⟨by rw [gmix_len]; simp; omega, ElG.mk (fun el3 hel3 => ?_)⟩
      rw [hiN, gmix_last] at hel3
      obtain rfl := Option.some.inj hel3
      conv => whnf
      refine ⟨by omega, by simp [rowJ_len hj]; omega, ?_⟩
      conv => whnf
      refine ⟨trivial, ?_⟩
      refine RowAt.mk' (gmix_row (by simp [hTl])) ?_
      refine ⟨by simp [rowJ_len hj]; omega, El.mk (fun el4 hel4 => ?_)⟩
      obtain ⟨v2, _, rfl⟩ := r1_get hel4
      conv => whnf
      refine ⟨j + 1, (by omega : j + 1 ≤ N), (by omega : 300 - (j + 1) < 300 - j), weak_of ?_ ?_ rfl (Nat.zero_le _)⟩
      · rw [show 0 + (j : Int).toNat = j by simp, show (0 + (i : Int).toNat) * 1 = T.length by simp [hTl]]
        refine congrArg (fun z => [(0, OB.grid 1 z)]) ?_
        refine (gmix_set (v := -1) rfl).trans ?_
        rw [rowJ_set hjl]
      · rw [hj1]
        (repeat' first | exact rfl | exact trivial | apply And.intro | (simp [getE]; done))
    · have hje : j = N := by simp at hb1; omega
      have hi1 : IntKind.i64.wrap ((i : Int) + 1) = ((i + 1 : Nat) : Int) := by rw [wrap_i64 _ (by omega) (by omega)]; omega
      refine ⟨i + 1, (by omega : i + 1 ≤ L + 1), (by omega : 40 - (i + 1) < 40 - i), weak_of ?_ ?_ rfl (Nat.zero_le _)⟩
      · have e1 : List.replicate (i + 1) (rowJ N N) = T ++ [rowJ N N] := by rw [List.replicate_succ', hT]
        rw [e1, hje, show L + 1 - (i + 1) = k by omega]
        rfl
      · rw [hi1]
        (repeat' first | exact rfl | exact trivial | apply And.intro | (simp [getE]; done))
  · have hie : i = L + 1 := by simp at hb; omega
    have hg0 : gmix (List.replicate i (rowJ (4 ^ h) (4 ^ h))) (L + 1 - i) = gx (List.replicate (L + 1) (rowJ (4 ^ h) (4 ^ h))) := by
      rw [hie, Nat.sub_self]; simp [gmix]
    have ht0 : TabL h L (List.replicate (L + 1) (rowJ (4 ^ h) (4 ^ h))) := ⟨by simp, fun r hr => by rw [List.eq_of_mem_replicate hr]; exact rowJ_len (Nat.le_refl _)⟩
    have hgd : GoodT h wo (List.replicate (L + 1) (rowJ (4 ^ h) (4 ^ h))) := by
      intro left st r v hr hv h0
      have := List.eq_of_mem_replicate (List.mem_of_getElem? hr)
      subst this
      have hm := List.mem_of_getElem? hv
      simp [rowJ] at hm
      omega
    rw [hg0]
    refine callX_drop (objs := [(0, .grid 1 (gx (List.replicate (L + 1) (rowJ (4 ^ h) (4 ^ h)))))]) (gs := []) (stCount_rec hh hL 1000 L 0 (Nat.le_refl _) (Nat.pow_pos (by omega)) (Nat.lt_of_lt_of_le (mu_small hh.2 hL) (by omega)) _ ht0 hgd) rfl ?_
    rintro _ _ ⟨rfl, T', gs', ht', hg', rfl⟩ _
    refine ⟨rfl, ?_⟩
    conv => whnf
    exact ⟨T', [], ht', hg', rfl, rfl⟩

end Go.Proofs.Ytmfdkjjhdjkgpaa

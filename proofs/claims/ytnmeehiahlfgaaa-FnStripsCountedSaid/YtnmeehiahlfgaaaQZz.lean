/- Strips: by squares; the reference's memory of lists. -/
import Derived.Test.YtnmeehiahlfgaaaQLst
import Derived.Test.YtnmeehiahlfgaaaQZk
import Derived.Test.YtnmeehiahlfgaaaQRst
import Derived.Test.YtnmeehiahlfgaaaQZf
namespace Go.Proofs.Ytnmeehiahlfgaaa
open Go Go.RowKit
set_option maxRecDepth 10000
set_option linter.unusedSimpArgs false

/-- All that stands out is within what is left. -/
def Rch (h left st : Nat) : Prop := ∀ i, i < h → dg st i ≤ left

theorem rch_zero {h left : Nat} : Rch h left 0 := fun i _ => by simp [dg]

theorem rch_shift {h left st : Nat} (hh : h < 5) (hst : st < 4 ^ h) (hf : freeS h st = none) (hr : Rch h left st) : Rch h (left - 1) (st - onesS 0 h) := by
  intro i hi
  have := shift_dg hh hst hf i hi
  have := hr i hi
  omega

theorem rch_nx {h left st r side a b : Nat} (hh : h < 5) (hst : st < 4 ^ h) (h1 : 1 ≤ side) (hr : Rch h left st) (hn : nx h left st r side = some (a, b)) : Rch h a b := by
  unfold nx at hn
  split at hn
  · split at hn
    · simp only [Option.some.injEq, Prod.mk.injEq] at hn
      obtain ⟨rfl, rfl⟩ := hn
      exact rch_zero
    · cases hn
  · rename_i h4
    simp only [Option.map_eq_some_iff, Prod.mk.injEq] at hn
    obtain ⟨s, hs, rfl, rfl⟩ := hn
    unfold putS at hs
    split at hs
    · rename_i hc
      obtain ⟨c1, c2, c3⟩ := hc
      obtain rfl := Option.some.inj hs
      intro i hi
      rw [put_dg hh (Nat.lt_of_lt_of_le hst (Nat.le_refl _)) (by omega) h1 c1 c3 i (by omega)]
      have := hr i hi
      split
      · rename_i hc2
        have := (clear_iff.1 c3) (i - r) (by omega)
        rw [show r + (i - r) = i by omega] at this
        omega
      · omega
    · cases hs

theorem rch_end {h st : Nat} (hh : h < 5) (hst : st < 4 ^ h) (hr : Rch h 0 st) : st = 0 := by
  refine dg_ext hh hst (Nat.pow_pos (by omega)) fun i hi => ?_
  have := hr i hi
  have e : dg 0 i = 0 := by simp [dg]
  omega

theorem nx_one {h left st r : Nat} (h0 : left ≠ 0) (hf : freeS h st = some r) : ∃ s, nx h left st r 1 = some (left, s) := by
  obtain ⟨k1, k2, _⟩ := freeS_spec hf
  refine ⟨st + 1 * onesS r 1, ?_⟩
  unfold nx putS
  rw [if_neg (by omega), if_pos ⟨by omega, by omega, by rw [clear_iff]; intro k hk; rw [show r + k = r by omega]; exact k2⟩]
  rfl

def stepL (_ : Nat) (a v : List Int) : List Int := addK (padTo a (v.length + 1)) v v.length

/-- How many ways there are, with each number of squares. -/
noncomputable def Bw (h left st : Nat) : List Int := (Tw h left st).1

theorem Bw_eq (h left st : Nat) : Bw h left st = Es [1] [] stepL h left st := by
  unfold Bw
  rw [Tw_eq]
  exact Es_hom Prod.fst oneT zeroT stepT [1] [] stepL rfl rfl (fun i a b => rfl)

theorem stepL_len (i : Nat) (a v : List Int) : (stepL i a v).length = max a.length (v.length + 1) := by
  unfold stepL
  rw [addK_len]
  unfold padTo
  rw [List.length_append, List.length_replicate]
  omega

theorem partL_pos {h left st y : Nat} : ∀ i, 1 ≤ i → (∃ s, nx h left st y 1 = some s) → 0 < (partE [1] [] stepL h left st y i).length
  | 0, h1, _ => by omega
  | i + 1, _, ⟨⟨a, b⟩, hs⟩ => by
    by_cases hi : i = 0
    · subst hi
      rw [partE_succ _ _ _ hs, stepL_len]; omega
    · have ih := partL_pos (h := h) (left := left) (st := st) (y := y) i (by omega) ⟨_, hs⟩
      cases hn : nx h left st y (i + 1) with
      | some p =>
        obtain ⟨a', b'⟩ := p
        rw [partE_succ _ _ _ hn, stepL_len]; omega
      | none =>
        have hp : partE [1] [] stepL h left st y (i + 1) = partE [1] [] stepL h left st y i := by
          conv => lhs; unfold partE
          rw [List.range_succ, List.foldl_append]
          simp only [List.foldl_cons, List.foldl_nil, hn]
          rfl
        rw [hp]; exact ih

theorem Bw_pos {h : Nat} (hh : 1 ≤ h ∧ h < 5) : ∀ (n left st : Nat), mu h left st < n → left ≤ 30 → st < 4 ^ h → Rch h left st → 0 < (Bw h left st).length
  | 0, _, _, hm, _, _, _ => by omega
  | n + 1, left, st, hm, hl, hst, hr => by
    by_cases h0 : left = 0
    · subst h0
      obtain rfl := rch_end hh.2 hst hr
      rw [Bw_eq, Es_zero]; exact Nat.one_pos
    · cases hf : freeS h st with
      | none =>
        have h256 := Nat.lt_of_lt_of_le hst (pow_le256 hh.2)
        obtain ⟨s1, s2⟩ := shift_lt h hh.2 st h256 hst hf
        rw [Bw_eq, Es_shift _ _ _ hh.2 hl hst h0 hf, ← Bw_eq]
        refine Bw_pos hh n _ _ ?_ (by omega) s2 (rch_shift hh.2 hst hf hr)
        have hz := zer_le h (st - onesS 0 h)
        have e : (h + 1) * left = (h + 1) * (left - 1) + (h + 1) := by rw [← Nat.mul_succ]; congr 1; omega
        unfold mu at hm ⊢
        omega
      | some y =>
        rw [Bw_eq, Es_put _ _ _ hh.2 hl hst h0 hf]
        have := partL_pos (h := h) (left := left) (st := st) (y := y) h hh.1 (by obtain ⟨s, hs⟩ := nx_one h0 hf; exact ⟨_, hs⟩)
        exact this

/-- Cells that are free still. -/
def clS (h left st : Nat) : Nat := ((List.range h).map fun i => left - dg st i).sum

theorem sum_map_le {f g : Nat → Nat} : ∀ (l : List Nat), (∀ i ∈ l, f i ≤ g i) → (l.map f).sum ≤ (l.map g).sum
  | [], _ => by simp
  | x :: r, h => by
    have h1 := h x (by simp)
    have h2 := sum_map_le r (fun i hi => h i (by simp [hi]))
    simp only [List.map_cons, List.sum_cons]
    omega

theorem sum_map_lt {f g : Nat → Nat} {k : Nat} : ∀ (l : List Nat), (∀ i ∈ l, f i ≤ g i) → k ∈ l → f k < g k → (l.map f).sum < (l.map g).sum
  | [], _, hk, _ => by simp at hk
  | x :: r, h, hk, hlt => by
    have h1 := h x (by simp)
    simp only [List.map_cons, List.sum_cons]
    rcases List.mem_cons.1 hk with rfl | hk
    · have h2 := sum_map_le r (fun i hi => h i (by simp [hi]))
      omega
    · have h2 := sum_map_lt r (fun i hi => h i (by simp [hi])) hk hlt
      omega

theorem clS_nx {h left st r side a b : Nat} (hh : h < 5) (hst : st < 4 ^ h) (h1 : 1 ≤ side) (hs : side ≤ h) (hr : Rch h left st) (hf : freeS h st = some r) (hl : left ≠ 0) (hn : nx h left st r side = some (a, b)) : clS h a b < clS h left st := by
  obtain ⟨k1, k2, _⟩ := freeS_spec hf
  unfold nx at hn
  split at hn
  · split at hn
    · rename_i h4 hc
      simp only [Option.some.injEq, Prod.mk.injEq] at hn
      obtain ⟨rfl, rfl⟩ := hn
      obtain ⟨rfl, hc⟩ := hc
      exact sum_map_lt _ (fun i _ => by simp [dg]) (List.mem_range.2 k1) (by simp [dg]; omega)
    · cases hn
  · rename_i h4
    simp only [Option.map_eq_some_iff, Prod.mk.injEq] at hn
    obtain ⟨s, hs', rfl, rfl⟩ := hn
    unfold putS at hs'
    split at hs'
    · rename_i hc
      obtain ⟨c1, c2, c3⟩ := hc
      obtain rfl := Option.some.inj hs'
      have hd := put_dg hh hst (by omega) h1 c1 c3
      refine sum_map_lt _ (fun i hi => ?_) (List.mem_range.2 k1) ?_
      · rw [hd i (by have := List.mem_range.1 hi; omega)]; omega
      · rw [hd r (by omega), k2, if_pos ⟨by omega, by omega⟩]; omega
    · cases hs'

theorem clS_shift {h left st : Nat} (hh : h < 5) (hst : st < 4 ^ h) (hf : freeS h st = none) (hr : Rch h left st) : clS h (left - 1) (st - onesS 0 h) ≤ clS h left st := by
  refine sum_map_le _ fun i hi => ?_
  have := shift_dg hh hst hf i (List.mem_range.1 hi)
  omega

theorem partL_len {h left st y n : Nat} (hs : ∀ side a b, 1 ≤ side → side ≤ h → nx h left st y side = some (a, b) → (Es [1] [] stepL h a b).length + 1 ≤ n) : ∀ i, i ≤ h → (partE [1] [] stepL h left st y i).length ≤ n
  | 0, _ => Nat.zero_le _
  | i + 1, hi => by
    have ih := partL_len hs i (by omega)
    cases hn : nx h left st y (i + 1) with
    | some p =>
      obtain ⟨a', b'⟩ := p
      have := hs (i + 1) a' b' (by omega) hi hn
      rw [partE_succ _ _ _ hn, stepL_len]; omega
    | none =>
      have hp : partE [1] [] stepL h left st y (i + 1) = partE [1] [] stepL h left st y i := by
        conv => lhs; unfold partE
        rw [List.range_succ, List.foldl_append]
        simp only [List.foldl_cons, List.foldl_nil, hn]
        rfl
      rw [hp]; exact ih

theorem Bw_len {h : Nat} (hh : 1 ≤ h ∧ h < 5) : ∀ (n left st : Nat), mu h left st < n → left ≤ 30 → st < 4 ^ h → Rch h left st → (Bw h left st).length ≤ clS h left st + 1
  | 0, _, _, hm, _, _, _ => by omega
  | n + 1, left, st, hm, hl, hst, hr => by
    by_cases h0 : left = 0
    · subst h0
      obtain rfl := rch_end hh.2 hst hr
      rw [Bw_eq, Es_zero]; simp
    · cases hf : freeS h st with
      | none =>
        have h256 := Nat.lt_of_lt_of_le hst (pow_le256 hh.2)
        obtain ⟨s1, s2⟩ := shift_lt h hh.2 st h256 hst hf
        rw [Bw_eq, Es_shift _ _ _ hh.2 hl hst h0 hf, ← Bw_eq]
        have := clS_shift hh.2 hst hf hr
        refine Nat.le_trans (Bw_len hh n _ _ ?_ (by omega) s2 (rch_shift hh.2 hst hf hr)) (by omega)
        have hz := zer_le h (st - onesS 0 h)
        have e : (h + 1) * left = (h + 1) * (left - 1) + (h + 1) := by rw [← Nat.mul_succ]; congr 1; omega
        unfold mu at hm ⊢
        omega
      | some y =>
        rw [Bw_eq, Es_put _ _ _ hh.2 hl hst h0 hf]
        refine partL_len (n := clS h left st + 1) (y := y) (fun side a b h1 h2 hn => ?_) h (Nat.le_refl _)
        obtain ⟨n1, n2, n3⟩ := nx_mu hh.2 hst h1 h2 hn
        have := Bw_len hh n a b (by omega) (by omega) n2 (rch_nx hh.2 hst h1 hr hn)
        rw [Bw_eq] at this
        have := clS_nx hh.2 hst h1 h2 hr hf h0 hn
        omega

theorem clS_zero {h left : Nat} : clS h left 0 = h * left := by
  unfold clS
  have : ((List.range h).map fun i => left - dg 0 i) = List.replicate h left := by
    apply List.ext_getElem
    · simp
    · intro i h1 h2; simp [dg]
  rw [this]; simp

end Go.Proofs.Ytnmeehiahlfgaaa

namespace Go.Proofs.Ytnmeehiahlfgaaa
open Go Go.RowKit
set_option maxRecDepth 10000
set_option linter.unusedSimpArgs false

def eD (xs : List Int) : DC := if xs = [] then .v (.slice none 0 0) else .list 1 (xs.map r1)

def gy (T : List (List (List Int))) : List (List GC) := T.map fun r => [GC.row 1 (r.map fun xs => [eD xs])]

theorem gy_get {T : List (List (List Int))} {i : Nat} {x : List GC} (h : (gy T)[i]? = some x) : ∃ r, T[i]? = some r ∧ x = [GC.row 1 (r.map fun xs => [eD xs])] := by
  unfold gy at h
  rw [List.getElem?_map, Option.map_eq_some_iff] at h
  obtain ⟨r, h1, rfl⟩ := h
  exact ⟨r, h1, rfl⟩

theorem gy_row' {T : List (List (List Int))} {i p : Nat} {r : List (List Int)} (h : T[i]? = some r) (hp : p = i) : rowAt 1 (gy T) p = some (1, r.map fun xs => [eD xs]) := by
  subst hp
  unfold rowAt gy
  simp [List.getElem?_map, h, Nat.mod_one]

theorem gy_set {T : List (List (List Int))} {i j : Nat} {r : List (List Int)} {v : List Int} {d : DC} (h : T[i]? = some r) (hd : d = eD v) : setG 1 (gy T) (i * 1 + 0) (.row 1 ((r.map fun xs => [eD xs]).set j [d])) = gy (T.set i (r.set j v)) := by
  subst hd
  unfold setG gy
  rw [show (i * 1 + 0) / 1 = i by simp, show (i * 1 + 0) % 1 = 0 by simp [Nat.mod_one], List.getElem?_map, h]
  simp [List.map_set]

theorem gy_len (T : List (List (List Int))) : (gy T).length = T.length := by simp [gy]

structure TabB (h L : Nat) (T : List (List (List Int))) : Prop where
  len : T.length = L + 1
  row : ∀ r ∈ T, r.length = 4 ^ h

def GoodB (h : Nat) (T : List (List (List Int))) : Prop := ∀ (left st : Nat) r xs, T[left]? = some r → r[st]? = some xs → xs ≠ [] → xs = Bw h left st

theorem TabB.get {h L : Nat} {T : List (List (List Int))} (ht : TabB h L T) {left st : Nat} (hl : left ≤ L) (hs : st < 4 ^ h) : ∃ r v, T[left]? = some r ∧ r[st]? = some v ∧ r.length = 4 ^ h := by
  have h1 : left < T.length := by rw [ht.len]; omega
  have hr := ht.row _ (List.getElem_mem h1)
  have h2 : st < T[left].length := by rw [hr]; exact hs
  exact ⟨_, _, List.getElem?_eq_getElem h1, List.getElem?_eq_getElem h2, hr⟩

theorem TabB.set {h L : Nat} {T : List (List (List Int))} (ht : TabB h L T) {left st : Nat} {r : List (List Int)} {v : List Int} (hr : T[left]? = some r) : TabB h L (T.set left (r.set st v)) := by
  refine ⟨by rw [List.length_set]; exact ht.len, fun x hx => ?_⟩
  rcases List.mem_or_eq_of_mem_set hx with hx | rfl
  · exact ht.row x hx
  · rw [List.length_set]; exact ht.row r (List.mem_of_getElem? hr)

theorem GoodB.set {h : Nat} {T : List (List (List Int))} (hg : GoodB h T) {left st : Nat} {r : List (List Int)} {v : List Int} (hr : T[left]? = some r) (hv : v = Bw h left st) : GoodB h (T.set left (r.set st v)) := by
  intro left' st' r' v' h1 h2 h3
  by_cases e : left = left'
  · subst e
    have hl := (List.getElem?_eq_some_iff.1 hr).1
    rw [List.getElem?_set_self hl] at h1
    obtain rfl := Option.some.inj h1
    by_cases e2 : st = st'
    · subst e2
      obtain rfl := set_get h2
      exact hv
    · rw [List.getElem?_set_ne e2] at h2
      exact hg left st' r v' hr h2 h3
  · rw [List.getElem?_set_ne e] at h1
    exact hg left' st' r' v' h1 h2 h3

theorem two_step2 {ι κ : Type} {Pr : ι → κ → Prop} {T : ι → κ → Prop} {Goal : Prop} (main : (∀ x y, Pr x y → T x y) → Goal) (body : ∀ x y, Pr x y → T x y) : Goal := main body

/-- The list when k numbers of B have been put. -/
def outK (A B : List Int) (k : Nat) : List Int := addK (padTo A (if k = 0 then 0 else k + 1)) B k

theorem outK_zero (A B : List Int) : outK A B 0 = A := by unfold outK addK padTo; simp

theorem outK_all {A B : List Int} (i : Nat) (h : 0 < B.length) : outK A B B.length = stepL i A B := by
  unfold outK stepL
  rw [if_neg (by omega)]

theorem padTo_len (A : List Int) (n : Nat) : (padTo A n).length = max A.length n := by
  unfold padTo; rw [List.length_append, List.length_replicate]; omega

theorem addK_snoc (p o : List Int) (z : Int) : ∀ k, (k < p.length ∨ k = 0) → addK (p ++ [z]) o k = addK p o k ++ [z]
  | 0, _ => rfl
  | k + 1, h => by
    have h : k + 1 < p.length := by omega
    unfold addK
    rw [addK_snoc p o z k (by omega), List.set_append_left _ _ (by rw [addK_len]; omega)]
    congr 2
    unfold List.getD
    rw [List.getElem?_append_left (by rw [addK_len]; omega)]

theorem padTo_succ {A : List Int} {n : Nat} (h : A.length ≤ n) : padTo A (n + 1) = padTo A n ++ [0] := by
  unfold padTo
  rw [show n + 1 - A.length = (n - A.length) + 1 by omega, List.replicate_succ', List.append_assoc]

theorem padTo_same {A : List Int} {n : Nat} (h : n ≤ A.length) : padTo A n = A := by
  unfold padTo
  rw [show n - A.length = 0 by omega]; simp

theorem l1Own_ok (l : List Int) (hn : l.length ≤ 2 ^ 30) : Fn G.P 60 [.c (.list 1 (l.map r1))] (.one (.c (.list 1 (l.map r1)))) := by
  refine fn_of_body (G := G) Try.func60 rfl (by decide) (Nat.le_of_ble_eq_true rfl) ?_
  conv => whnf
  repeat' first
    | exact True.intro
    | (refine draw_mkF ?_ ?_ ?_; (focus (decide +kernel)); (focus (kernel_rfl)); conv => whnf)
    | (refine Both.mk ?_ ?_ <;> conv => whnf)
    | (refine NilQ.mk (fun hnil => ?_) ?_ <;> conv => whnf)
    | (refine draw_mk (by kernel_rfl) ?_; conv => whnf)
    | (refine Br.mk (fun hb => ?_) (fun hb => ?_) <;> conv => whnf)
    | (refine And.intro ?_ ?_; (focus (first | decide | omega | (simp [contentOK, objRd, objAt, peel, List.length_map]; done) | (simp [contentOK, objRd, objAt, peel, List.length_map]; omega) | (simp [contentOK, objRd, objAt, peel, List.length_map] at *; omega))); conv => whnf)
  refine ⟨⟨?_, trivial⟩, by simp [refVs, refCV]⟩
  exact res_cell (xs := l.map r1) (by simp [objAt]) (by simp) r1_flat

theorem stBy_rec {h L : Nat} {cap : Option Nat} (hh : 1 ≤ h ∧ h < 5) (hL : L ≤ 30) : ∀ (n left st : Nat), left ≤ L → st < 4 ^ h → Rch h left st → mu h left st < n → ∀ T, TabB h L T → GoodB h T →
    CallX G.P 51 [.c (.sl 0 0 1 0 (L + 1) cap), .c (vI h), .c (vI left), .c (vI st)] [(0, .grid 1 (gy T))]
      (fun sv objs1 => sv = .one (.c (.d (.list 1 ((Bw h left st).map r1)))) ∧ ∃ T' gs, TabB h L T' ∧ GoodB h T' ∧ objs1 = (0, .grid 1 (gy T')) :: gs)
  | 0, _, _, _, _, _, hm => by omega
  | n + 1, left, st, hl, hst, hrch, hm => by
    intro T ht hg
    have h256 := Nat.lt_of_lt_of_le hst (pow_le256 hh.2)
    obtain ⟨r, v, hr, hrv, hrl⟩ := ht.get hl hst
    have hgl := gy_len T
    have htl := ht.len
    refine CallX.freeze ?_ (fun _ _ h => h)
    refine call_body (G := G) Try.func51 rfl (by decide) (Nat.le_of_ble_eq_true rfl) ?_
    conv => whnf
    refine Br.mk (fun hb => ?_) (fun hb => ?_) <;> conv => whnf
    · have h0 : left = 0 := by simp at hb; omega
      have hz : st = 0 := rch_end hh.2 hst (h0 ▸ hrch)
      refine Br.mk (fun hb1 => ?_) (fun hb1 => ?_) <;> conv => whnf
      · have e : Bw h left st = [1] := by rw [h0, hz, Bw_eq]; exact Es_zero _ _ _
        rw [e]
        exact ⟨_, _, _, rfl, Nat.le_refl 1, rfl, rfl, T, _, ht, hg, rfl⟩
      · simp [hz] at hb1
    have h0 : ¬ left = 0 := by simp at hb; omega
    have hlN : 0 + ((left : Int)).toNat = left := by simp
    refine ⟨by omega, by omega, ?_⟩
    conv => whnf
    refine ⟨by rw [hgl, htl, hlN]; omega, ElG.mk (fun el hel => ?_)⟩
    obtain ⟨r', hr', rfl⟩ := gy_get hel
    rw [hlN, hr] at hr'
    obtain rfl := Option.some.inj hr'
    conv => whnf
    refine ⟨by omega, by simp; omega, ?_⟩
    conv => whnf
    refine RowAt.mk' (gy_row' hr (by simp)) ?_
    refine ⟨by simp; omega, El.mk (fun el2 hel2 => ?_)⟩
    obtain rfl : el2 = [eD v] := by
      simp at hel2
      rw [hrv] at hel2
      obtain ⟨a, ha, rfl⟩ := hel2
      cases ha
      rfl
    by_cases hve : v = []
    rotate_left
    · rw [show eD v = .list 1 (v.map r1) from if_neg hve]
      have hvp : 0 < v.length := List.length_pos_iff.2 hve
      conv => whnf
      refine Br.mk (fun hb1 => ?_) (fun hb1 => ?_) <;> conv => whnf
      · refine ⟨by omega, by omega, ?_⟩
        conv => whnf
        refine ⟨by rw [hgl, htl, hlN]; omega, ElG.mk (fun el hel => ?_)⟩
        obtain ⟨r', hr', rfl⟩ := gy_get hel
        rw [hlN, hr] at hr'
        obtain rfl := Option.some.inj hr'
        conv => whnf
        refine ⟨by omega, by simp; omega, ?_⟩
        conv => whnf
        refine RowAt.mk' (gy_row' hr (by simp)) ?_
        refine ⟨by simp; omega, El.mk (fun el2 hel2 => ?_)⟩
        obtain rfl : el2 = [eD v] := by
          simp at hel2
          rw [hrv] at hel2
          obtain ⟨a, ha, rfl⟩ := hel2
          cases ha
          rfl
        rw [show eD v = .list 1 (v.map r1) from if_neg hve]
        conv => whnf
        refine ⟨_, _, _, rfl, trivial, rfl, ?_, T, _, ht, hg, rfl⟩
        rw [hg left st r v hr hrv hve]
        rfl
      · simp at hb1; exact absurd hb1 hve
    subst hve
    rw [show eD [] = .v (.slice none 0 0) from rfl]
    conv => whnf
    have hfree := stFree_ok st h h256 hh.2
    cases hf : freeS h st with
    | none =>
      have hfi : freeI h st = -1 := by unfold freeI; rw [hf]
      obtain ⟨s1, s2⟩ := shift_lt h hh.2 st h256 hst hf
      have hw : IntKind.i64.wrap ((left : Int) - 1) = ((left - 1 : Nat) : Int) := by rw [wrap_i64 _ (by omega) (by omega)]; omega
      have hval : Bw h left st = Bw h (left - 1) (st - onesS 0 h) := by rw [Bw_eq, Bw_eq]; exact Es_shift _ _ _ hh.2 (by omega) hst h0 hf
      have hmu : mu h (left - 1) (st - onesS 0 h) < n := by
        have hz := zer_le h (st - onesS 0 h)
        have e : (h + 1) * left = (h + 1) * (left - 1) + (h + 1) := by rw [← Nat.mul_succ]; congr 1; omega
        unfold mu at hm ⊢
        omega
      rw [hfi] at hfree
      refine call_sn (by repeat' first | exact rfl | exact trivial | apply And.intro) hfree ?_
      conv => whnf
      refine call_sn (by repeat' first | exact rfl | exact trivial | apply And.intro) (stShift_ok st h h256 hh.2 s1) ?_
      conv => whnf
      rw [hw]
      refine frameN [0] (stBy_rec hh hL n (left - 1) (st - onesS 0 h) (by omega) s2 (rch_shift hh.2 hst hf hrch) hmu T ht hg) rfl (by decide) ⟨rfl, rfl⟩ rfl ?_
      rintro _ _ ⟨rfl, T', gs, ht', hg', rfl⟩
      refine ⟨[_], gs, rfl, Nat.le_refl _, rfl, ?_⟩
      conv => whnf
      have hpos := Bw_pos hh n (left - 1) (st - onesS 0 h) hmu (by omega) s2 (rch_shift hh.2 hst hf hrch)
      have hlen := Bw_len hh n (left - 1) (st - onesS 0 h) hmu (by omega) s2 (rch_shift hh.2 hst hf hrch)
      have hown := l1Own_ok (Bw h (left - 1) (st - onesS 0 h)) (Nat.le_trans (Tw_len _ _ _) (by decide))
      refine call_sn (by repeat' first | exact rfl | exact trivial | apply And.intro) hown ?_
      conv => whnf
      refine Br.mk (fun hb2 => ?_) (fun hb2 => ?_) <;> conv => whnf
      · simp at hb2; rw [hb2] at hpos; simp at hpos
      obtain ⟨rr, vv, hr1, hv1, hrl1⟩ := ht'.get hl hst
      have hgl1 := gy_len T'
      have htl1 := ht'.len
      refine ⟨by omega, by omega, ?_⟩
      conv => whnf
      refine ⟨by rw [hgl1, htl1, hlN]; omega, ElG.mk (fun el hel => ?_)⟩
      obtain ⟨r', hr', rfl⟩ := gy_get hel
      rw [hlN, hr1] at hr'
      obtain rfl := Option.some.inj hr'
      conv => whnf
      refine ⟨by omega, by simp; omega, ?_⟩
      conv => whnf
      refine ⟨(show 0 + (List.map r1 (Bw h (left - 1) (st - onesS 0 h))).length ≤ (List.map r1 (Bw h (left - 1) (st - onesS 0 h))).length by omega), ?_⟩
      refine RowAt.mk' (gy_row' hr1 (by simp)) ?_
      refine ⟨by simp; omega, El.mk (fun el2 hel2 => ?_)⟩
      obtain ⟨a0, rfl⟩ : ∃ a0, el2 = [a0] := by
        simp at hel2
        obtain ⟨a, _, rfl⟩ := hel2
        exact ⟨_, rfl⟩
      conv => whnf
      rw [hval]
      have hbe : Bw h (left - 1) (st - onesS 0 h) ≠ [] := List.length_pos_iff.1 hpos
      generalize hB : Bw h (left - 1) (st - onesS 0 h) = B at hbe hpos ⊢
      have htk : List.take (List.map r1 B).length (List.drop 0 (List.map r1 B)) = B.map r1 := by rw [List.drop_zero, List.take_length]
      rw [htk]
      refine ⟨_, _, _, rfl, (show 0 + (List.map r1 B).length ≤ (List.map r1 B).length by omega), rfl, ?_, T'.set left (rr.set st B), [(0, .fro true (.arr 1 (B.map r1)))], ht'.set hr1, hg'.set hr1 (by rw [hval, hB]), ?_⟩
      · rw [htk]; rfl
      · rw [show (0 + ((left : Int)).toNat) * 1 = left * 1 + 0 by simp, show 0 + ((st : Int)).toNat = st by simp]
        exact congrArg (fun z => [(0, OB.grid 1 z), (0, OB.fro true (.arr 1 (B.map r1)))]) (gy_set hr1 (if_neg hbe).symm)
    | some y =>
      have hfi : freeI h st = y := by unfold freeI; rw [hf]
      rw [hfi] at hfree
      refine call_sn (by repeat' first | exact rfl | exact trivial | apply And.intro) hfree ?_
      conv => whnf
      obtain ⟨y1, _, _⟩ := freeS_spec hf
      refine .inl ⟨Nat × List (List (List Int)), fun x => 6 - x.1, fun x => x.1 ≤ h ∧ TabB h L x.2 ∧ GoodB h x.2,
        fun x => ⟨[(0, .one (.c (.sl 0 0 1 0 (L + 1) cap))), (1, .one (.c (vI h))), (2, .one (.c (vI left))), (3, .one (.c (vI st))), (9, .one (.c (.sl 1 0 1 0 (partE [1] [] stepL h left st y x.1).length none))), (10, .one (.c (vI y))), (11, .one (.c (vI ((x.1 + 1 : Nat) : Int))))],
          [(0, .grid 1 (gy x.2))] ++ [(0, .arr 1 ((partE [1] [] stepL h left st y x.1).map r1))], _⟩, (0, T), ⟨Nat.zero_le _, ht, hg⟩, weak_nilof 1 1 rfl ?_ rfl rfl rfl (Nat.le_of_ble_eq_true rfl) (Nat.le_of_ble_eq_true rfl), ?_⟩
      · (repeat' first | exact rfl | exact trivial | apply And.intro | (simp [getE]; done))
      rintro ⟨i, T1⟩ ⟨hi, ht1, hg1⟩
      dsimp only at hi ht1 hg1
      have hA300 : (partE [1] [] stepL h left st y i).length ≤ 300 := Nat.le_trans (partL_len (n := 300) (fun side a b _ _ _ => by
        have := Tw_len h a b
        have e := Bw_eq h a b
        unfold Bw at e
        rw [← e]; omega) i hi) (Nat.le_refl _)
      have hw1 : IntKind.i64.wrap (((i + 1 : Nat) : Int) + 1) = ((i + 1 + 1 : Nat) : Int) := by rw [wrap_i64 _ (by omega) (by omega)]; omega
      obtain ⟨A, hA⟩ : ∃ A, A = partE [1] [] stepL h left st y i := ⟨_, rfl⟩
      have hA1 : i + 1 ≤ h → partE [1] [] stepL h left st y (i + 1) = (match nx h left st y (i + 1) with
          | some (a, b) => stepL (i + 1) A (Bw h a b)
          | none => A) := fun _ => by
        cases hn : nx h left st y (i + 1) with
        | some p =>
          obtain ⟨a, b⟩ := p
          rw [partE_succ _ _ _ hn, ← hA, ← Bw_eq]
        | none =>
          have hp : partE [1] [] stepL h left st y (i + 1) = partE [1] [] stepL h left st y i := by
            conv => lhs; unfold partE
            rw [List.range_succ, List.foldl_append]
            simp only [List.foldl_cons, List.foldl_nil, hn]
            rfl
          rw [hp, ← hA]
      dsimp only
      rw [← hA] at hA300 ⊢
      conv => whnf
      refine Br.mk (fun hb3 => ?_) (fun hb3 => ?_) <;> conv => whnf
      · have hlt : i + 1 ≤ h := by simp at hb3; omega
        have hone := nx_one h0 hf
        apply two_step2 (Pr := fun (T2 : List (List (List Int))) (B : List Int) => TabB h L T2 ∧ GoodB h T2 ∧ ∃ a b, nx h left st y (i + 1) = some (a, b) ∧ B = Bw h a b ∧ 0 < B.length ∧ B.length ≤ 300)
        · intro key
          refine Br.mk (fun hb5 => ?_) (fun hb5 => ?_) <;> conv => whnf
          · have h4 : i + 1 = 4 := by simp at hb5; omega
            have hno : (¬ (st = 0 ∧ 4 ≤ left)) → nx h left st y (i + 1) = none := fun hc => by unfold nx; rw [if_pos h4, if_neg hc]
            refine Br.mk (fun hb6 => ?_) (fun hb6 => ?_) <;> conv => whnf
            · have hz : st = 0 := by simp at hb6; omega
              refine Br.mk (fun hb7 => ?_) (fun hb7 => ?_) <;> conv => whnf
              · have hl4 : 4 ≤ left := by simp at hb7; omega
                have hn : nx h left st y (i + 1) = some (left - 4, 0) := by unfold nx; rw [if_pos h4, if_pos ⟨hz, hl4⟩]
                have hw : IntKind.i64.wrap ((left : Int) - 4) = ((left - 4 : Nat) : Int) := by rw [wrap_i64 _ (by omega) (by omega)]; omega
                obtain ⟨n1, n2, n3⟩ := nx_mu hh.2 hst (by omega) hlt hn
                have hpos := Bw_pos hh n (left - 4) 0 (by omega) (by omega) n2 rch_zero
                rw [hw]
                refine frameN [0] (stBy_rec hh hL n (left - 4) 0 (by omega) n2 rch_zero (by omega) T1 ht1 hg1) rfl (by decide) ⟨rfl, rfl⟩ rfl ?_
                rintro _ _ ⟨rfl, T', gs, ht', hg', rfl⟩
                refine ⟨[_], gs, rfl, Nat.le_refl _, rfl, ?_⟩
                have hB300 : (Bw h (left - 4) 0).length ≤ 300 := Nat.le_trans (Tw_len _ _ _) (by decide)
                obtain ⟨B, hB⟩ : ∃ B, B = Bw h (left - 4) 0 := ⟨_, rfl⟩
                rw [← hB] at hpos hB300 ⊢
                conv => whnf
                refine .inl ⟨Nat, fun k => B.length - k, fun k => k ≤ B.length,
                  fun k => ⟨[(0, .one (.c (.sl 0 0 1 0 (L + 1) cap))), (1, .one (.c (vI h))), (2, .one (.c (vI left))), (3, .one (.c (vI st))), (9, .one (.c (.sl 1 0 1 0 (outK A B k).length none))), (10, .one (.c (vI y))), (11, .one (.c (vI ((i + 1 : Nat) : Int)))), (85, .one (.c (.d (.list 1 (B.map r1))))), (86, .one (.c (vI (B.length : Nat)))), (87, .one (.c (vI k)))],
                    [(0, .grid 1 (gy T')), (0, .arr 1 ((outK A B k).map r1))], _⟩, 0, Nat.zero_le _, weak_of (by rw [outK_zero]; rfl) ?_ rfl (Nat.le_of_ble_eq_true rfl), ?_⟩
                · rw [outK_zero, List.length_map]
                  (repeat' first | exact rfl | exact trivial | apply And.intro | (simp [getE]; done))
                exact key T' B ⟨ht', hg', _, _, hn, hB, hpos, hB300⟩
              · have hn := hno (fun hc => by simp at hb7; omega)
                refine .inr ⟨1, ?_⟩
                conv => whnf
                refine ⟨(i + 1, T1), ⟨hlt, ht1, hg1⟩, (by show 6 - (i + 1) < 6 - i; omega), weak_of ?_ ?_ rfl (Nat.le_of_ble_eq_true rfl)⟩
                · rw [hA1 hlt, hn]; rfl
                · simp only [hw1, hA1 hlt, hn]
                  (repeat' first | exact rfl | exact trivial | apply And.intro | (simp [getE]; done))
            · have hn := hno (fun hc => by simp at hb6; omega)
              refine .inr ⟨1, ?_⟩
              conv => whnf
              refine ⟨(i + 1, T1), ⟨hlt, ht1, hg1⟩, (by show 6 - (i + 1) < 6 - i; omega), weak_of ?_ ?_ rfl (Nat.le_of_ble_eq_true rfl)⟩
              · rw [hA1 hlt, hn]; rfl
              · simp only [hw1, hA1 hlt, hn]
                (repeat' first | exact rfl | exact trivial | apply And.intro | (simp [getE]; done))
          · have h4 : ¬ i + 1 = 4 := by simp at hb5; omega
            refine call_sn (by repeat' first | exact rfl | exact trivial | apply And.intro) (stPut_ok st h left y (i + 1) h256 hh.2 (by omega) (by omega) (by omega) (by omega)) ?_
            conv => whnf
            cases hp : putS h left st y (i + 1) with
            | none =>
              have hv0 : putV h left st y (i + 1) = (0, false) := by unfold putV; rw [hp]
              have hn : nx h left st y (i + 1) = none := by unfold nx; rw [if_neg h4, hp]; rfl
              rw [hv0]
              conv => whnf
              refine .inr ⟨1, ?_⟩
              conv => whnf
              refine ⟨(i + 1, T1), ⟨hlt, ht1, hg1⟩, (by show 6 - (i + 1) < 6 - i; omega), weak_of ?_ ?_ rfl (Nat.le_of_ble_eq_true rfl)⟩
              · rw [hA1 hlt, hn]; rfl
              · simp only [hw1, hA1 hlt, hn]
                (repeat' first | exact rfl | exact trivial | apply And.intro | (simp [getE]; done))
            | some s =>
              have hv0 : putV h left st y (i + 1) = ((s : Int), true) := by unfold putV; rw [hp]
              have hn : nx h left st y (i + 1) = some (left, s) := by unfold nx; rw [if_neg h4, hp]; rfl
              obtain ⟨n1, n2, n3⟩ := nx_mu hh.2 hst (by omega) hlt hn
              have hrs := rch_nx hh.2 hst (by omega) hrch hn
              have hpos := Bw_pos hh n left s (by omega) (by omega) n2 hrs
              rw [hv0]
              conv => whnf
              refine frameN [0] (stBy_rec hh hL n left s hl n2 hrs (by omega) T1 ht1 hg1) rfl (by decide) ⟨rfl, rfl⟩ rfl ?_
              rintro _ _ ⟨rfl, T', gs, ht', hg', rfl⟩
              refine ⟨[_], gs, rfl, Nat.le_refl _, rfl, ?_⟩
              have hB300 : (Bw h left s).length ≤ 300 := Nat.le_trans (Tw_len _ _ _) (by decide)
              obtain ⟨B, hB⟩ : ∃ B, B = Bw h left s := ⟨_, rfl⟩
              rw [← hB] at hpos hB300 ⊢
              conv => whnf
              refine .inl ⟨Nat, fun k => B.length - k, fun k => k ≤ B.length,
                fun k => ⟨[(0, .one (.c (.sl 0 0 1 0 (L + 1) cap))), (1, .one (.c (vI h))), (2, .one (.c (vI left))), (3, .one (.c (vI st))), (9, .one (.c (.sl 1 0 1 0 (outK A B k).length none))), (10, .one (.c (vI y))), (11, .one (.c (vI ((i + 1 : Nat) : Int)))), (85, .one (.c (.d (.list 1 (B.map r1))))), (86, .one (.c (vI (B.length : Nat)))), (87, .one (.c (vI k)))],
                  [(0, .grid 1 (gy T')), (0, .arr 1 ((outK A B k).map r1))], _⟩, 0, Nat.zero_le _, weak_of (by rw [outK_zero]; rfl) ?_ rfl (Nat.le_of_ble_eq_true rfl), ?_⟩
              · rw [outK_zero, List.length_map]
                (repeat' first | exact rfl | exact trivial | apply And.intro | (simp [getE]; done))
              exact key T' B ⟨ht', hg', _, _, hn, hB, hpos, hB300⟩
        rintro T2 B ⟨ht2, hg2, a, b, hn, hB, hpos, hB300⟩ k hk
        replace hk : k ≤ B.length := hk
        dsimp only
        conv => whnf
        refine Br.mk (fun hb5 => ?_) (fun hb5 => ?_) <;> conv => whnf
        · have hkl : k < B.length := by simp at hb5; omega
          have hBk : B[k]? = some (B.getD k 0) := by simp [List.getD, List.getElem?_eq_getElem hkl]
          refine ⟨by omega, by simp; omega, ?_⟩
          conv => whnf
          refine El.get (x := [dI (B.getD k 0)]) (by rw [Int.toNat_natCast, List.getElem?_map, hBk]; rfl) ?_
          conv => whnf
          refine .inl ⟨List Int, fun x => 1000 - x.length, fun x => x.length ≤ 800 ∧ ∃ m, m ≤ k + 2 ∧ (k = 0 ∨ k + 1 ≤ m) ∧ x = addK (padTo A m) B k,
            fun x => ⟨[(0, .one (.c (.sl 0 0 1 0 (L + 1) cap))), (1, .one (.c (vI h))), (2, .one (.c (vI left))), (3, .one (.c (vI st))), (9, .one (.c (.sl 1 0 1 0 x.length none))), (10, .one (.c (vI y))), (11, .one (.c (vI ((i + 1 : Nat) : Int)))), (15, .one (.c (vI k))), (16, .one (.c (vI (B.getD k 0)))),
                (85, .one (.c (.d (.list 1 (B.map r1))))), (86, .one (.c (vI (B.length : Nat)))), (87, .one (.c (vI k)))],
                [(0, .grid 1 (gy T2)), (0, .arr 1 (x.map r1))], _⟩, outK A B k, ⟨?_, (if k = 0 then 0 else k + 1), ?_, ?_, rfl⟩, weak_of rfl ?_ rfl (Nat.le_of_ble_eq_true rfl), ?_⟩
          · unfold outK; rw [addK_len, padTo_len]; split <;> omega
          · split <;> omega
          · split <;> omega
          · (repeat' first | exact rfl | exact trivial | apply And.intro | (simp [getE]; done))
          rintro x ⟨hx8, m, hm1, hm2, hx⟩
          have hxl : x.length = max A.length m := by rw [hx, addK_len, padTo_len]
          have hk1 : IntKind.i64.wrap ((k : Int) + 1) = ((k + 1 : Nat) : Int) := by rw [wrap_i64 _ (by omega) (by omega)]; omega
          dsimp only
          conv => whnf
          rw [hk1]
          refine Br.mk (fun hb6 => ?_) (fun hb6 => ?_) <;> conv => whnf
          · have hxk : x.length ≤ k + 1 := by simp at hb6; omega
            repeat' first
              | exact True.intro
              | (refine draw_mkF ?_ ?_ ?_; (focus (decide +kernel)); (focus (kernel_rfl)); conv => whnf)
              | (refine Both.mk ?_ ?_ <;> conv => whnf)
              | (refine NilQ.mk (fun hnil => ?_) ?_ <;> conv => whnf)
              | (refine draw_mk (by kernel_rfl) ?_; conv => whnf)
              | (refine Br.mk (fun hb => ?_) (fun hb => ?_) <;> conv => whnf)
              | (refine And.intro ?_ ?_; (focus (first | decide | omega | (simp [contentOK, objRd, objAt, peel, List.length_map]; done) | (simp [contentOK, objRd, objAt, peel, List.length_map]; omega) | (simp [contentOK, objRd, objAt, peel, List.length_map] at *; omega))); conv => whnf)
            rw [app1 (by simp), map_snoc]
            refine ⟨x ++ [0], ⟨by simp; omega, max A.length m + 1, by omega, by omega, ?_⟩, by simp; omega, weak_verof 1 1 0 rfl ?_ rfl rfl (Nat.le_of_ble_eq_true rfl) (Nat.le_of_ble_eq_true rfl)⟩
            · rw [padTo_succ (by omega), addK_snoc _ _ _ _ (by rw [padTo_len]; omega)]
              congr 1
              rw [hx]
              congr 1
              rcases Nat.le_total A.length m with hc | hc
              · rw [Nat.max_eq_right hc]
              · rw [Nat.max_eq_left hc, padTo_same hc, padTo_same (Nat.le_refl _)]
            · rw [List.length_append]
              (repeat' first | exact rfl | exact trivial | apply And.intro | (simp [getE]; done))
          · have hxk : k + 2 ≤ x.length := by simp at hb6; omega
            have hx2 : x = addK (padTo A (k + 2)) B k := by
              rw [hx]
              by_cases hc : m = k + 2
              · rw [hc]
              · have h1 : m ≤ A.length := by omega
                have h2 : k + 2 ≤ A.length := by omega
                rw [padTo_same h1, padTo_same h2]
            have hxg : x[k + 1]? = some (x.getD (k + 1) 0) := by
              have : k + 1 < x.length := by omega
              simp [List.getD, List.getElem?_eq_getElem this]
            rw [hk1]
            refine ⟨by omega, by omega, ?_⟩
            conv => whnf
            refine ⟨by simp; omega, El.get (x := [dI (x.getD (k + 1) 0)]) (by rw [Int.toNat_natCast, Nat.zero_add, List.getElem?_map, hxg]; rfl) ?_⟩
            conv => whnf
            refine ⟨by omega, by omega, ?_⟩
            conv => whnf
            refine ⟨by simp; omega, ?_⟩
            conv => whnf
            have hout : (x.map r1).set (0 + (((k + 1 : Nat) : Int)).toNat) [DC.v (.int .i64 (IntKind.i64.wrap (x.getD (k + 1) 0 + B.getD k 0)))] = (outK A B (k + 1)).map r1 := by
              unfold outK
              rw [if_neg (by omega), addK, ← hx2, show 0 + (((k + 1 : Nat) : Int)).toNat = k + 1 by simp]
              simp [List.map_set, r1]
            have hol : x.length = (outK A B (k + 1)).length := by
              unfold outK
              rw [if_neg (by omega), addK, List.length_set, ← hx2]
            rw [hout, hol]
            refine ⟨k + 1, (by omega : k + 1 ≤ B.length), (by omega : B.length - (k + 1) < B.length - k), weak_of rfl ?_ rfl (Nat.le_of_ble_eq_true rfl)⟩
            rw [hk1]
            (repeat' first | exact rfl | exact trivial | apply And.intro | (simp [getE]; done))
        · have hke : k = B.length := by simp at hb5; omega
          subst hke
          rw [outK_all (i + 1) hpos]
          have hres : partE [1] [] stepL h left st y (i + 1) = stepL (i + 1) A B := by rw [hA1 hlt, hn, hB]
          refine ⟨(i + 1, T2), ⟨hlt, ht2, hg2⟩, (by show 6 - (i + 1) < 6 - i; omega), weak_of ?_ ?_ rfl (Nat.le_of_ble_eq_true rfl)⟩
          · dsimp only
            rw [hres]; rfl
          · dsimp only
            rw [hres, hw1]
            (repeat' first | exact rfl | exact trivial | apply And.intro | (simp [getE]; done))
      · have hih : i = h := by simp at hb3; omega
        have hval : Bw h left st = A := by
          rw [Bw_eq, hA, hih]
          exact Es_put _ _ _ hh.2 (by omega) hst h0 hf
        have hpos := Bw_pos hh (n + 1) left st hm (by omega) hst hrch
        rw [hval] at hpos ⊢
        have hAe : A ≠ [] := List.length_pos_iff.1 hpos
        refine Br.mk (fun hb2 => ?_) (fun hb2 => ?_) <;> conv => whnf
        · simp at hb2; exact absurd hb2 hAe
        obtain ⟨rr, vv, hr1, hv1, hrl1⟩ := ht1.get hl hst
        have hgl1 := gy_len T1
        have htl1 := ht1.len
        refine ⟨by omega, by omega, ?_⟩
        conv => whnf
        refine ⟨by rw [hgl1, htl1, hlN]; omega, ElG.mk (fun el hel => ?_)⟩
        obtain ⟨r', hr', rfl⟩ := gy_get hel
        rw [hlN, hr1] at hr'
        obtain rfl := Option.some.inj hr'
        conv => whnf
        refine ⟨by omega, by simp; omega, ?_⟩
        conv => whnf
        refine ⟨(show 0 + A.length ≤ (List.map r1 A).length by simp), ?_⟩
        refine RowAt.mk' (gy_row' hr1 (by simp)) ?_
        refine ⟨by simp; omega, El.mk (fun el2 hel2 => ?_)⟩
        obtain ⟨a0, rfl⟩ : ∃ a0, el2 = [a0] := by
          simp at hel2
          obtain ⟨a, _, rfl⟩ := hel2
          exact ⟨_, rfl⟩
        conv => whnf
        have htk : List.take A.length (List.drop 0 (List.map r1 A)) = A.map r1 := by rw [List.drop_zero, List.take_of_length_le (by simp)]
        rw [htk]
        refine ⟨_, _, _, rfl, (show 0 + A.length ≤ (List.map r1 A).length by simp), rfl, ?_, T1.set left (rr.set st A), [(0, .fro true (.arr 1 (A.map r1)))], ht1.set hr1, hg1.set hr1 hval.symm, ?_⟩
        · rw [htk]; rfl
        · rw [show (0 + ((left : Int)).toNat) * 1 = left * 1 + 0 by simp, show 0 + ((st : Int)).toNat = st by simp]
          exact congrArg (fun z => [(0, OB.grid 1 z), (0, OB.fro true (.arr 1 (A.map r1)))]) (gy_set hr1 (if_neg hAe).symm)

end Go.Proofs.Ytnmeehiahlfgaaa

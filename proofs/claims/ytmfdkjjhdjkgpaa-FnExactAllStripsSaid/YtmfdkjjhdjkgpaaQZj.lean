/- Strips without squares of a side: the program. -/
import Derived.Test.YtmfdkjjhdjkgpaaQDst
namespace Go.Proofs.Ytmfdkjjhdjkgpaa
open Go Go.RowKit
set_option maxRecDepth 10000
set_option linter.unusedSimpArgs false

/-- Ways to fill: those without squares of a side. -/
def stepV (wo : Nat) (i : Nat) (acc v : Int) : Int := if i = wo then acc else acc + v

theorem Vw_ex : ∃ f : Nat → Nat → Nat → Nat → Int, ∀ wo h left st, f wo h left st = Es (1 : Int) 0 (stepV wo) h left st := ⟨_, fun _ _ _ _ => rfl⟩

/-- The number of ways (a name that is not laid open by chance). -/
noncomputable def Vw : Nat → Nat → Nat → Nat → Int := Classical.choose Vw_ex

theorem Vw_eq (wo h left st : Nat) : Vw wo h left st = Es (1 : Int) 0 (stepV wo) h left st := Classical.choose_spec Vw_ex wo h left st

theorem wrap_form (x : Int) : IntKind.i64.wrap x = if x % 18446744073709551616 ≥ 9223372036854775808 then x % 18446744073709551616 - 18446744073709551616 else x % 18446744073709551616 := by
  simp [IntKind.wrap, IntKind.bits, IntKind.signed]

theorem wrap_add (a b : Int) : IntKind.i64.wrap (IntKind.i64.wrap a + IntKind.i64.wrap b) = IntKind.i64.wrap (a + b) := by
  rw [wrap_form a, wrap_form b, wrap_form (a + b), wrap_form]
  repeat' split
  all_goals omega

theorem wrap_wrap (a : Int) : IntKind.i64.wrap (IntKind.i64.wrap a) = IntKind.i64.wrap a := by
  have := wrap_add a 0
  have e : IntKind.i64.wrap 0 = 0 := by decide
  rw [e, Int.add_zero, Int.add_zero] at this
  exact this

/-- A part of the sides' sum. -/
def partE {α : Type} (one zero : α) (step : Nat → α → α → α) (h left st y i : Nat) : α := (List.range i).foldl (fun acc j => match nx h left st y (j + 1) with
  | some (l, s) => step (j + 1) acc (Es one zero step h l s)
  | none => acc) zero

theorem partE_succ {α : Type} (one zero : α) (step : Nat → α → α → α) {h left st y i a b : Nat} (hn : nx h left st y (i + 1) = some (a, b)) : partE one zero step h left st y (i + 1) = step (i + 1) (partE one zero step h left st y i) (Es one zero step h a b) := by
  unfold partE
  rw [List.range_succ, List.foldl_append]
  simp only [List.foldl_cons, List.foldl_nil, hn]

theorem partE_all {α : Type} (one zero : α) (step : Nat → α → α → α) {h left st y m : Nat} (hm : m ≤ h) (hno : ∀ i, m < i → i ≤ h → nx h left st y i = none) : partE one zero step h left st y h = partE one zero step h left st y m := by
  obtain ⟨k, rfl⟩ : ∃ k, h = m + k := ⟨h - m, by omega⟩
  have : ∀ j, j ≤ k → partE one zero step (m + k) left st y (m + j) = partE one zero step (m + k) left st y m := by
    intro j
    induction j with
    | zero => intro _; rfl
    | succ j ih =>
      intro hj
      rw [← ih (by omega)]
      conv => lhs; unfold partE
      rw [show m + (j + 1) = (m + j) + 1 by omega, List.range_succ, List.foldl_append]
      simp only [List.foldl_cons, List.foldl_nil, hno (m + j + 1) (by omega) (by omega)]
      rfl
  exact this k (Nat.le_refl _)

theorem Es_part {α : Type} (one zero : α) (step : Nat → α → α → α) {h l X st y : Nat} {R : List Nat} (hh : h < 5) (hl : l ≤ 30) (hX : X < l) (hat : At h l X st R) (hy : freeS h st = some y) : Es one zero step h (l - X) st = partE one zero step h (l - X) st y (mst h l X R y) := by
  rw [Es_put one zero step hh (by omega) hat.lt (by omega) hy]
  refine partE_all one zero step (mst_le hh) (fun i h1 h2 => ?_)
  cases hn : nx h (l - X) st y i with
  | none => rfl
  | some p =>
    have := (nx_iff hh (by omega) hat hy (by omega) h2).1 (by rw [hn]; rfl)
    omega

theorem putR_four (R : List Nat) (y side : Nat) : ∃ a b c d, putR R y side = [a, b, c, d] := ⟨_, _, _, _, rfl⟩

theorem lookup_upd {es : List (List Int × DV)} {k k' : List Int} {v : DV} : (updM es k v).lookup k' = if k' = k then some v else es.lookup k' := by
  induction es with
  | nil =>
    unfold updM
    by_cases e : k' = k
    · subst e; simp
    · rw [if_neg e, List.lookup_cons]
      have : (k' == k) = false := beq_eq_false_iff_ne.2 e
      rw [this]
  | cons x r ih =>
    obtain ⟨k0, v0⟩ := x
    unfold updM
    by_cases e0 : k0 = k
    · subst e0
      rw [if_pos (by simp)]
      by_cases e : k' = k0
      · subst e; simp
      · have : (k' == k0) = false := beq_eq_false_iff_ne.2 e
        rw [if_neg e, List.lookup_cons, List.lookup_cons, this]
    · rw [if_neg (by simpa using e0), List.lookup_cons, List.lookup_cons]
      by_cases e : k' = k0
      · subst e
        rw [if_neg e0]
        simp
      · have : (k' == k0) = false := beq_eq_false_iff_ne.2 e
        rw [this]
        exact ih

end Go.Proofs.Ytmfdkjjhdjkgpaa

namespace Go.Proofs.Ytmfdkjjhdjkgpaa
open Go Go.RowKit
set_option maxRecDepth 10000
set_option linter.unusedSimpArgs false

/-- Heights and lengths of strips. -/
def stripB (h l : Int) : Bool := inB h 1 4 && inB l 1 30

theorem strip_nat {h l : Int} (hb : stripB h l = true) : ∃ a b : Nat, h = a ∧ l = b ∧ 1 ≤ a ∧ a < 5 ∧ 1 ≤ b ∧ b ≤ 30 := by
  simp only [stripB, inB, Bool.and_eq_true, decide_eq_true_eq] at hb
  exact ⟨h.toNat, l.toNat, by omega, by omega, by omega, by omega, by omega, by omega⟩

theorem isStripSize_ok (h l : Int) : Fn G.P 89 [aI h, aI l] (.one (aB (stripB h l))) := by
  refine fn_of_body (G := G) Try.func89 rfl (by decide) (Nat.le_of_ble_eq_true rfl) ?_
  conv => whnf
  repeat' first
    | exact True.intro
    | (refine draw_mkF ?_ ?_ ?_; (focus (decide +kernel)); (focus (kernel_rfl)); conv => whnf)
    | (refine Both.mk ?_ ?_ <;> conv => whnf)
    | (refine OwnQ.own ?_; conv => whnf)
    | (refine NilQ.mk (fun hnil => ?_) ?_ <;> conv => whnf)
    | (refine draw_mk (by kernel_rfl) ?_; conv => whnf)
    | (refine Br.mk (fun hb => ?_) (fun hb => ?_) <;> conv => whnf)
    | (refine call_sn ?_ (within_ok ?_ ?_ ?_) ?_; (focus ((repeat' first | exact snapRow | exact snap_row (by simp; done) | exact rfl | exact trivial | apply And.intro | omega | (simp; done)); done)); conv => whnf)
    | (refine callP_sn ?_ (within_ok ?_ ?_ ?_) ?_; (focus ((repeat' first | exact snapRow | exact snap_row (by simp; done) | exact rfl | exact trivial | apply And.intro | omega | (simp; done)); done)); conv => whnf)
    | (refine And.intro ?_ ?_; (focus (first | decide | omega | (simp at *; omega) | (simp_all; done))); conv => whnf)
  all_goals first | (simp_all [resOK_iff, resVs, resCell, resCells, refVs, refCV, refCs, stripB]; done) | (simp_all [resOK_iff, resVs, resCell, resCells, refVs, refCV, refCs, stripB]; omega)

theorem at_start {h l : Nat} (hh : 1 ≤ h ∧ h < 5) : At h l 0 0 [0, 0, 0, 0] := by
  have hg : ∀ i, [0, 0, 0, 0].getD i 0 = 0 := by
    intro i
    match i with
    | 0 => rfl
    | 1 => rfl
    | 2 => rfl
    | 3 => rfl
    | i + 4 => rfl
  refine ⟨fun i hi => by rw [hg]; simp [dg], Nat.pow_pos (by omega), ?_, fun i hi => by rw [hg]; omega, fun i => by rw [hg]; omega⟩
  have hc : h = 1 ∨ h = 2 ∨ h = 3 ∨ h = 4 := by omega
  rcases hc with rfl | rfl | rfl | rfl <;> decide

end Go.Proofs.Ytmfdkjjhdjkgpaa

namespace Go.Proofs.Ytmfdkjjhdjkgpaa
open Go Go.RowKit
set_option maxRecDepth 10000
set_option linter.unusedSimpArgs false

theorem stSize_ok (h l : Int) : Fn G.P 81 [aI h, aI l] (.one (aB (stripB h l))) := by
  refine fn_of_body (G := G) Try.func81 rfl (by decide) (Nat.le_of_ble_eq_true rfl) ?_
  conv => whnf
  repeat' first
    | exact True.intro
    | (refine draw_mkF ?_ ?_ ?_; (focus (decide +kernel)); (focus (kernel_rfl)); conv => whnf)
    | (refine Both.mk ?_ ?_ <;> conv => whnf)
    | (refine OwnQ.own ?_; conv => whnf)
    | (refine NilQ.mk (fun hnil => ?_) ?_ <;> conv => whnf)
    | (refine draw_mk (by kernel_rfl) ?_; conv => whnf)
    | (refine Br.mk (fun hb => ?_) (fun hb => ?_) <;> conv => whnf)
    | (refine call_sn ?_ (l1In_ok ?_ ?_ ?_) ?_; (focus ((repeat' first | exact snapRow | exact snap_row (by simp; done) | exact rfl | exact trivial | apply And.intro | omega | (simp; done)); done)); conv => whnf)
    | (refine callP_sn ?_ (l1In_ok ?_ ?_ ?_) ?_; (focus ((repeat' first | exact snapRow | exact snap_row (by simp; done) | exact rfl | exact trivial | apply And.intro | omega | (simp; done)); done)); conv => whnf)
    | (refine And.intro ?_ ?_; (focus (first | decide | omega | (simp at *; omega) | (simp_all; done))); conv => whnf)
  all_goals first | (simp_all [resOK_iff, resVs, resCell, resCells, refVs, refCV, refCs, stripB]; done) | (simp_all [resOK_iff, resVs, resCell, resCells, refVs, refCV, refCs, stripB]; omega)

def rowChk (st r : Nat) : Bool := IntKind.i64.wrap (((BitVec.ofInt 64 (Int.fdiv (st : Int) (2 ^ (min (IntKind.i64.wrap (2 * (r : Int))).toNat 64))) &&& BitVec.ofInt 64 3).toNat : Int)) == (dg st r : Int)

theorem rowChk_all : ((List.range 256).all fun st => (List.range 4).all fun r => rowChk st r) = true := by decide +kernel

theorem stRow_ok (st r : Nat) (hst : st < 256) (hr : r < 4) : Fn G.P 124 [aI st, aI r] (.one (aI (dg st r))) := by
  have hc := rowChk_all
  simp only [List.all_eq_true, List.mem_range] at hc
  have hc := hc st hst r hr
  simp only [rowChk, beq_iff_eq] at hc
  have h2 : (0 : Int) ≤ IntKind.i64.wrap (2 * (r : Int)) := by rw [wrap_i64 _ (by omega) (by omega)]; omega
  refine fn_of_body (G := G) Try.func124 rfl (by decide) (Nat.le_of_ble_eq_true rfl) ?_
  conv => whnf
  refine ⟨h2, ?_⟩
  conv => whnf
  exact ⟨⟨congrArg (fun z => Value.int .i64 z) hc, trivial⟩, by simp [refVs, refCV]⟩

def freeI (h st : Nat) : Int := match freeS h st with
  | some r => r
  | none => -1

theorem freeS_none {h st : Nat} (hc : ∀ j, j < h → dg st j ≠ 0) : freeS h st = none := by
  unfold freeS
  rw [List.find?_eq_none]
  intro x hx
  have := hc x (by simpa using hx)
  simpa using this

theorem freeS_at {h st r : Nat} (hr : r < h) (h0 : dg st r = 0) (hc : ∀ j, j < r → dg st j ≠ 0) : freeS h st = some r := by
  unfold freeS
  rw [List.find?_range_eq_some]
  exact ⟨by simpa using h0, by simpa using hr, fun j hj => by simpa using hc j hj⟩

theorem stFree_ok (st h : Nat) (hst : st < 256) (hh : h < 5) : Fn G.P 85 [aI st, aI h] (.one (aI (freeI h st))) := by
  refine fn_of_body (G := G) Try.func85 rfl (by decide) (Nat.le_of_ble_eq_true rfl) ?_
  conv => whnf
  refine .inl ⟨Nat, fun i => 5 - i, fun i => i ≤ h ∧ ∀ j, j < i → dg st j ≠ 0, fun i => ⟨[(0, .one (.c (vI st))), (1, .one (.c (vI h))), (5, .one (.c (vI i)))], [], _⟩, 0, ⟨Nat.zero_le _, fun j hj => by omega⟩, weak_of rfl ?_ rfl (Nat.zero_le _), ?_⟩
  · (repeat' first | exact rfl | exact trivial | apply And.intro | (simp [getE]; done))
  rintro i ⟨hi, hall⟩
  conv => whnf
  refine Br.mk (fun hb => ?_) (fun hb => ?_) <;> conv => whnf
  · have hlt : i < h := by simp at hb; omega
    refine call_sn (by repeat' first | exact rfl | exact trivial | apply And.intro) (stRow_ok st i hst (by omega)) ?_
    conv => whnf
    refine Br.mk (fun hb2 => ?_) (fun hb2 => ?_) <;> conv => whnf
    · have h0 : dg st i = 0 := by simp at hb2; omega
      rw [show freeI h st = i by unfold freeI; rw [freeS_at hlt h0 hall]]
      exact ⟨⟨rfl, trivial⟩, by simp [refVs, refCV]⟩
    · have h0 : dg st i ≠ 0 := by simp at hb2; omega
      refine ⟨i + 1, ⟨hlt, fun j hj => ?_⟩, by show 5 - (i + 1) < 5 - i; omega, weak_of rfl ?_ rfl (Nat.zero_le _)⟩
      · by_cases e : j = i
        · subst e; exact h0
        · exact hall j (by omega)
      · have := wrap_len (n := i + 1) (by omega)
        simp [envOK, getE]
        simpa using this
  · have hie : i = h := by simp at hb; omega
    subst hie
    rw [show freeI i st = -1 by unfold freeI; rw [freeS_none hall]]
    exact ⟨⟨rfl, trivial⟩, by simp [refVs, refCV]⟩

theorem onesS_succ (r i : Nat) : onesS r (i + 1) = onesS r i + 4 ^ (r + i) := by
  unfold onesS
  rw [List.range_succ, List.map_append, List.sum_append]
  simp

theorem onesS_le {r i : Nat} (hr : r + i ≤ 4) : onesS r i ≤ 85 := by
  have : ∀ i < 5, ∀ r < 5, r + i ≤ 4 → onesS r i ≤ 85 := by decide
  exact this i (by omega) r (by omega) hr

theorem shl_ok {v k : Nat} (hv : v ≤ 4) (hk : k < 4) : (0 : Int) ≤ IntKind.i64.wrap (2 * (k : Int)) ∧ IntKind.i64.wrap ((v : Int) * (2 : Int) ^ (min (IntKind.i64.wrap (2 * (k : Int))).toNat IntKind.i64.bits : Nat)) = ((v * 4 ^ k : Nat) : Int) := by
  have : ∀ v : Nat, v < 5 → ∀ k : Nat, k < 4 → IntKind.i64.wrap ((v : Int) * (2 : Int) ^ (min (IntKind.i64.wrap (2 * (k : Int))).toNat IntKind.i64.bits : Nat)) = ((v * 4 ^ k : Nat) : Int) := by decide
  exact ⟨by rw [wrap_i64 _ (by omega) (by omega)]; omega, this v (by omega) k hk⟩

theorem stShift_ok (st h : Nat) (hst : st < 256) (hh : h < 5) (hle : onesS 0 h ≤ st) : Fn G.P 86 [aI st, aI h] (.one (aI ((st - onesS 0 h : Nat) : Int))) := by
  refine fn_of_body (G := G) Try.func86 rfl (by decide) (Nat.le_of_ble_eq_true rfl) ?_
  conv => whnf
  refine .inl ⟨Nat, fun i => 5 - i, fun i => i ≤ h, fun i => ⟨[(0, .one (.c (vI ((st : Int) - (onesS 0 i : Int))))), (1, .one (.c (vI h))), (5, .one (.c (vI i)))], [], _⟩, 0, Nat.zero_le _, weak_of rfl ?_ rfl (Nat.zero_le _), ?_⟩
  · simp only [show (st : Int) - (onesS 0 0 : Int) = st by simp [onesS]]
    (repeat' first | exact rfl | exact trivial | apply And.intro | (simp [getE]; done))
  intro i hi
  replace hi : i ≤ h := hi
  conv => whnf
  refine Br.mk (fun hb => ?_) (fun hb => ?_) <;> conv => whnf
  · have hlt : i < h := by simp at hb; omega
    obtain ⟨k1, k2⟩ := shl_ok (v := 1) (k := i) (by omega) (by omega)
    refine ⟨k1, ?_⟩
    conv => whnf
    refine ⟨i + 1, hlt, by show 5 - (i + 1) < 5 - i; omega, weak_of rfl ?_ rfl (Nat.zero_le _)⟩
    have hw := wrap_len (n := i + 1) (by omega)
    have ho := onesS_le (r := 0) (i := i + 1) (by omega)
    have e : IntKind.i64.wrap ((st : Int) - (onesS 0 i : Int) - IntKind.i64.wrap (1 * (2 : Int) ^ (min (IntKind.i64.wrap (2 * (i : Int))).toNat IntKind.i64.bits : Nat))) = (st : Int) - (onesS 0 (i + 1) : Int) := by
      have k3 : IntKind.i64.wrap (1 * (2 : Int) ^ (min (IntKind.i64.wrap (2 * (i : Int))).toNat IntKind.i64.bits : Nat)) = ((1 * 4 ^ i : Nat) : Int) := k2
      rw [k3, onesS_succ]
      rw [onesS_succ] at ho
      rw [Nat.zero_add] at ho ⊢
      rw [wrap_i64 _ (by omega) (by omega)]
      omega
    have e2 : IntKind.i64.wrap ((i : Int) + 1) = ((i + 1 : Nat) : Int) := by simpa using hw
    simp only [envOK, getE]
    refine ⟨?_, ?_, ?_, trivial⟩
    · rw [← e]; rfl
    · rfl
    · rw [← e2]; rfl
  · have hie : i = h := by simp at hb; omega
    subst hie
    rw [show ((st - onesS 0 i : Nat) : Int) = (st : Int) - (onesS 0 i : Int) by omega]
    exact ⟨⟨rfl, trivial⟩, by simp [refVs, refCV]⟩

def pkChk (st r v j : Nat) : Bool := !(decide (r + j < 4) && clearB st r j) || (dg (st + v * onesS r j) (r + j) == dg st (r + j) && decide (st + v * onesS r j < 256))

theorem pk_all : ((List.range 256).all fun st => (List.range 4).all fun r => (List.range 4).all fun v => (List.range 4).all fun j => pkChk st r v j) = true := by decide +kernel

theorem pk_ok {st r v j : Nat} (hst : st < 256) (hv : v < 4) (hj : r + j < 4) (hc : clearB st r j = true) : dg (st + v * onesS r j) (r + j) = dg st (r + j) ∧ st + v * onesS r j < 256 := by
  have := pk_all
  simp only [List.all_eq_true, List.mem_range] at this
  have := this st hst r (by omega) v hv j (by omega)
  simpa [pkChk, hj, hc] using this

def putV (h left st r side : Nat) : Int × Bool := match putS h left st r side with
  | some s => (s, true)
  | none => (0, false)

theorem stPut_ok (st h left r side : Nat) (hst : st < 256) (hh : h < 5) (hl : left ≤ 30) (hr : r < 4) (h1 : 1 ≤ side) (hs : side < 4) :
    Fn G.P 88 [aI st, aI h, aI left, aI r, aI side] (.tup [aI (putV h left st r side).1, aB (putV h left st r side).2]) := by
  have hw : IntKind.i64.wrap ((r : Int) + (side : Int)) = (r : Int) + side := wrap_i64 _ (by omega) (by omega)
  refine fn_of_body (G := G) Try.func88 rfl (by decide) (Nat.le_of_ble_eq_true rfl) ?_
  conv => whnf
  refine Br.mk (fun hb => ?_) (fun hb => ?_) <;> conv => whnf
  · have hno : putS h left st r side = none := by
      unfold putS
      rw [if_neg]
      rintro ⟨a, b, _⟩
      rw [hw] at hb
      simp at hb
      omega
    rw [show putV h left st r side = (0, false) by unfold putV; rw [hno]]
    exact ⟨⟨rfl, rfl, trivial⟩, by simp [refVs, refCV]⟩
  refine Br.mk (fun hb2 => ?_) (fun hb2 => ?_) <;> conv => whnf
  · have hno : putS h left st r side = none := by
      unfold putS
      rw [if_neg]
      rintro ⟨a, b, _⟩
      simp at hb2
      omega
    rw [show putV h left st r side = (0, false) by unfold putV; rw [hno]]
    exact ⟨⟨rfl, rfl, trivial⟩, by simp [refVs, refCV]⟩
  have hrs : r + side ≤ h := by rw [hw] at hb; simp at hb; omega
  have hsl : side ≤ left := by simp at hb2; omega
  refine .inl ⟨Nat, fun j => 5 - j, fun j => j ≤ side ∧ clearB st r j = true, fun j => ⟨[(0, .one (.c (vI ((st + side * onesS r j : Nat) : Int)))), (3, .one (.c (vI r))), (4, .one (.c (vI side))), (12, .one (.c (vI ((r + j : Nat) : Int))))], [], _⟩, 0, ⟨Nat.zero_le _, rfl⟩, weak_of rfl ?_ rfl (Nat.zero_le _), ?_⟩
  · simp only [show st + side * onesS r 0 = st by simp [onesS]]
    (repeat' first | exact rfl | exact trivial | apply And.intro | (simp [getE]; done))
  rintro j ⟨hj, hcl⟩
  conv => whnf
  refine Br.mk (fun hb3 => ?_) (fun hb3 => ?_) <;> conv => whnf
  · rw [hw] at hb3
    have hlt : j < side := by simp at hb3; omega
    obtain ⟨q1, q2⟩ := pk_ok hst hs (show r + j < 4 by omega) hcl
    refine call_sn (by repeat' first | exact rfl | exact trivial | apply And.intro) (stRow_ok (st + side * onesS r j) (r + j) q2 (by omega)) ?_
    conv => whnf
    refine Br.mk (fun hb4 => ?_) (fun hb4 => ?_) <;> conv => whnf
    · have hno : putS h left st r side = none := by
        unfold putS
        rw [if_neg]
        rintro ⟨_, _, c⟩
        have := clear_iff.1 c j hlt
        rw [q1] at hb4
        simp at hb4
        omega
      rw [show putV h left st r side = (0, false) by unfold putV; rw [hno]]
      exact ⟨⟨rfl, rfl, trivial⟩, by simp [refVs, refCV]⟩
    · have h0 : dg st (r + j) = 0 := by rw [q1] at hb4; simp at hb4; omega
      obtain ⟨k1, k2⟩ := shl_ok (v := side) (k := r + j) (by omega) (by omega)
      refine ⟨k1, ?_⟩
      conv => whnf
      have hon := onesS_le (r := r) (i := j + 1) (by omega)
      have e : IntKind.i64.wrap (((st + side * onesS r j : Nat) : Int) + IntKind.i64.wrap ((side : Int) * (2 : Int) ^ (min (IntKind.i64.wrap (2 * ((r + j : Nat) : Int))).toNat IntKind.i64.bits : Nat))) = ((st + side * onesS r (j + 1) : Nat) : Int) := by
        rw [k2, onesS_succ, Nat.mul_add]
        have hm : side * onesS r (j + 1) ≤ 4 * 85 := Nat.mul_le_mul (by omega) hon
        rw [onesS_succ, Nat.mul_add] at hm
        rw [wrap_i64 _ (by omega) (by omega)]
        omega
      have e2 : IntKind.i64.wrap (((r + j : Nat) : Int) + 1) = ((r + (j + 1) : Nat) : Int) := by rw [wrap_i64 _ (by omega) (by omega)]; omega
      refine ⟨j + 1, ⟨hlt, ?_⟩, by show 5 - (j + 1) < 5 - j; omega, weak_of rfl ?_ rfl (Nat.zero_le _)⟩
      · rw [clear_iff] at hcl ⊢
        intro k hk
        by_cases ek : k = j
        · subst ek; exact h0
        · exact hcl k (by omega)
      · simp only [envOK, getE]
        refine ⟨?_, ?_, ?_, ?_, trivial⟩
        · rw [← e]; rfl
        · rfl
        · rfl
        · rw [← e2]; rfl
  · rw [hw] at hb3
    have hje : j = side := by simp at hb3; omega
    subst hje
    rw [show putV h left st r j = (((st + j * onesS r j : Nat) : Int), true) by unfold putV putS; rw [if_pos ⟨hrs, hsl, hcl⟩]]
    exact ⟨⟨rfl, rfl, trivial⟩, by simp [refVs, refCV]⟩

end Go.Proofs.Ytmfdkjjhdjkgpaa

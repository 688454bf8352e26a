/- Strips: what the law on all counts needs; plain. -/
import Derived.Test.YtnmeehiahlfgaaaQZab
import Derived.Test.YtnmeehiahlfgaaaQZac
import Derived.Test.YtnmeehiahlfgaaaQOst
import Derived.Test.YtnmeehiahlfgaaaQJst
import Derived.Test.YtnmeehiahlfgaaaQTst
import Derived.Test.YtnmeehiahlfgaaaQMst
import Derived.Test.YtnmeehiahlfgaaaQSst
namespace Go.Proofs.Ytnmeehiahlfgaaa
open Go Go.RowKit
set_option maxRecDepth 10000
set_option maxHeartbeats 1000000
set_option linter.unusedSimpArgs false

theorem strip_yes {h l : Nat} (hh : 1 ≤ h ∧ h < 5) (hl : 1 ≤ l ∧ l ≤ 30) : stripB h l = true := by
  simp only [stripB, inB, Bool.and_eq_true, decide_eq_true_eq]; omega

theorem countN {h l : Nat} (hh : 1 ≤ h ∧ h < 5) (hl : 1 ≤ l ∧ l ≤ 30) : countR h l = (((Cn h l 0 : Nat) : Int), true) := by
  have hsm := Cn_any (left := l) (st := 0) hh hl.2 (Nat.pow_pos (by omega))
  unfold countR
  rw [if_pos (strip_yes hh hl), Int.toNat_natCast, Int.toNat_natCast, Vw_Cn, wrap_i64 _ (by omega) (by omega)]

theorem wholeN {h l : Nat} (hh : 1 ≤ h ∧ h < 5) (hl : 1 ≤ l ∧ l ≤ 30) : wholeR h l = (((Fw h l : Nat) : Int), true) := by
  unfold wholeR
  rw [if_pos (strip_yes hh hl), Int.toNat_natCast, Int.toNat_natCast, whL_get hh l hl.2 (l - 1) (by omega), show l - 1 + 1 = l by omega]

theorem sideN {h l s : Nat} (hh : 1 ≤ h ∧ h < 5) (hl : 1 ≤ l ∧ l ≤ 30) (hs : 1 ≤ s ∧ s ≤ 4) : sideR h l s = (((of5 (S5 h l 0) s : Nat) : Int), true) := by
  have e : inB (s : Int) 1 4 = true := by simp only [inB, decide_eq_true_eq]; omega
  unfold sideR
  rw [if_pos (by rw [strip_yes hh hl, e]; rfl), Int.toNat_natCast, Int.toNat_natCast, Int.toNat_natCast, Pw_get hh hl.2 hs]

theorem withoutN {h l s : Nat} (hh : 1 ≤ h ∧ h < 5) (hl : 1 ≤ l ∧ l ≤ 30) (hs : 1 ≤ s ∧ s ≤ 4) : ∃ w : Nat, withoutR h l s = ((w : Int), true) ∧ ((of5 (S5 h l 0) s = 0 ∧ w = Cn h l 0) ∨ (0 < of5 (S5 h l 0) s ∧ w < Cn h l 0)) := by
  obtain ⟨w, e1, e2, e3⟩ := without_facts (h := h) (l := l) hs
  have hsm := Cn_any (left := l) (st := 0) hh hl.2 (Nat.pow_pos (by omega))
  refine ⟨w, ?_, by omega⟩
  have e : inB (s : Int) 1 4 = true := by simp only [inB, decide_eq_true_eq]; omega
  unfold withoutR
  rw [if_pos (by rw [strip_yes hh hl, e]; rfl), Int.toNat_natCast, Int.toNat_natCast, Int.toNat_natCast, e1, wrap_i64 _ (by omega) (by omega)]

theorem same_ok (h l s : Int) : (sideR h l s).2 = (withoutR h l s).2 := by
  unfold sideR withoutR
  split <;> rfl

/-- What is told of strips with a line down. -/
theorem through_facts (a b t : Int) : (throughR a b t).2 = false ∨ ∃ x y z : Nat, a = x ∧ b = y ∧ t = z ∧ (1 ≤ x ∧ x < 5) ∧ (1 ≤ y ∧ y ≤ 30) ∧ (1 ≤ z ∧ z < y) ∧ throughR a b t = (((Cn x z 0 * Cn x (y - z) 0 : Nat) : Int), true) ∧
    throughR a b (IntKind.i64.wrap (b - t)) = (((Cn x z 0 * Cn x (y - z) 0 : Nat) : Int), true) ∧ countR a b = (((Cn x y 0 : Nat) : Int), true) ∧ 1 ≤ Cn x z 0 * Cn x (y - z) 0 ∧ Cn x z 0 * Cn x (y - z) 0 ≤ Cn x y 0 := by
  by_cases hb : (stripB a b && inB t 1 (IntKind.i64.wrap (b - 1))) = true
  · right
    obtain ⟨x, y, z, rfl, rfl, rfl, hx, hy, hz1, hz2⟩ := at_nat hb
    refine ⟨x, y, z, rfl, rfl, rfl, hx, hy, ⟨hz1, hz2⟩, ?_⟩
    have key : ∀ z : Nat, 1 ≤ z → z < y → throughR x y z = (((Cn x z 0 * Cn x (y - z) 0 : Nat) : Int), true) ∧ 1 ≤ Cn x z 0 * Cn x (y - z) 0 ∧ Cn x z 0 * Cn x (y - z) 0 ≤ Cn x y 0 := by
      intro z h1 h2
      have e : inB (z : Int) 1 (IntKind.i64.wrap ((y : Int) - 1)) = true := by
        rw [wrap_i64 _ (by omega) (by omega)]
        simp only [inB, decide_eq_true_eq]; omega
      have hm := Cn_mul (h := x) (a := z) (b := y - z) hx (by omega)
      rw [show z + (y - z) = y by omega] at hm
      have hsm := Cn_any (left := y) (st := 0) hx hy.2 (Nat.pow_pos (by omega))
      have hs1 := Cn_any (left := z) (st := 0) hx (by omega) (Nat.pow_pos (by omega))
      have hs2 := Cn_any (left := y - z) (st := 0) hx (by omega) (Nat.pow_pos (by omega))
      have p1 := Cn_pos hx 1000 z 0 (Nat.lt_of_lt_of_le (mu_small hx.2 (by omega)) (by omega)) (by omega) (Nat.pow_pos (by omega)) rch_zero
      have p2 := Cn_pos hx 1000 (y - z) 0 (Nat.lt_of_lt_of_le (mu_small hx.2 (by omega)) (by omega)) (by omega) (Nat.pow_pos (by omega)) rch_zero
      refine ⟨?_, Nat.mul_pos p1 p2, hm⟩
      unfold throughR
      rw [if_pos (by rw [strip_yes hx hy, e]; rfl), Int.toNat_natCast, Int.toNat_natCast, Int.toNat_natCast, Vw_Cn, Vw_Cn, wrap_i64 (Cn x z 0) (by omega) (by omega), wrap_i64 (Cn x (y - z) 0) (by omega) (by omega), ← Int.natCast_mul, wrap_i64 _ (by omega) (by omega)]
    obtain ⟨k1, k2, k3⟩ := key z hz1 hz2
    obtain ⟨k4, _, _⟩ := key (y - z) (by omega) (by omega)
    refine ⟨k1, ?_, countN hx hy, k2, k3⟩
    rw [wrap_i64 _ (by omega) (by omega), show (y : Int) - (z : Int) = ((y - z : Nat) : Int) by omega, k4, show y - (y - z) = z by omega, Nat.mul_comm]
  · left
    unfold throughR
    rw [if_neg hb]

theorem ints_getD (B : List Nat) (i : Nat) : (ints B).getD i 0 = ((B.getD i 0 : Nat) : Int) := by
  unfold ints List.getD
  rw [List.getElem?_map]
  cases B[i]? <;> rfl

theorem sumK_ints (B : List Nat) (hb : B.sum < 2 ^ 62) : sumK 0 (ints B) (ints B).length = ((B.sum : Nat) : Int) := by
  have : ∀ l : List Nat, (ints l).sum = ((l.sum : Nat) : Int) := by
    intro l
    unfold ints
    induction l with
    | nil => rfl
    | cons x r ih => rw [List.map_cons, List.sum_cons, ih, List.sum_cons, Int.natCast_add]
  rw [sumK_eq, List.take_length, this, wrap_i64 _ (by omega) (by omega)]

def sumS (t : T5) : Nat → Nat
  | 0 => 0
  | k + 1 => sumS t k + of5 t (k + 1)

def areaS (t : T5) : Nat → Nat
  | 0 => 0
  | k + 1 => areaS t k + of5 t (k + 1) * (k + 1) * (k + 1)

theorem sumS_four {h l : Nat} (hh : 1 ≤ h ∧ h < 5) : sumS (S5 h l 0) 4 = (Qn h l 0).2 := by
  rw [← S5_sum hh.2]
  simp [sumS]

theorem areaS_four {h l : Nat} (hh : 1 ≤ h ∧ h < 5) (hl : l ≤ 30) : areaS (S5 h l 0) 4 = Cn h l 0 * (h * l) := by
  rw [← area_all hh hl]
  unfold area5
  simp [areaS]
  omega

/-- What lies before the whole ones of all. -/
noncomputable def partW (h l : Nat) : Nat → Nat
  | 0 => 0
  | k + 1 => partW h l k + Fw h (k + 1) * Cn h (l - (k + 1)) 0

theorem partW_sum (h l : Nat) : ∀ k, partW h l k = ((List.range k).map fun k => Fw h (k + 1) * Cn h (l - (k + 1)) 0).sum
  | 0 => rfl
  | k + 1 => by
    rw [partW, partW_sum h l k, List.range_succ, List.map_append, List.sum_append]; simp

theorem partW_end {h l : Nat} (hh : 1 ≤ h ∧ h < 5) (hl : 1 ≤ l ∧ l ≤ 30) : Fw h l + partW h l (l - 1) = Cn h l 0 := by
  rw [Cn_whole hh hl, ← partW_sum]
  obtain ⟨m, rfl⟩ : ∃ m, l = m + 1 := ⟨l - 1, by omega⟩
  rw [partW, Nat.sub_self, Nat.add_sub_cancel]
  have : Cn h 0 0 = 1 := by rw [Cn_eq, Es_zero]
  rw [this]; omega

theorem partW_le {h l : Nat} : ∀ {k n : Nat}, k ≤ n → partW h l k ≤ partW h l n := by
  intro k n hk
  obtain ⟨d, rfl⟩ : ∃ d, n = k + d := ⟨n - k, by omega⟩
  clear hk
  induction d with
  | zero => exact Nat.le_refl _
  | succ d ih => exact Nat.le_trans ih (Nat.le_add_right _ _)

/-- What is told of a height and a length. -/
structure AllOf (H L c q g k : Nat) (B : List Nat) : Prop where
  hh : 1 ≤ H ∧ H < 5
  hl : 1 ≤ L ∧ L ≤ 30
  cdef : c = Cn H L 0
  cb : c ≤ 205891132094649
  qdef : q = (Qn H L 0).2
  qb : q ≤ 24706935851357880
  sq : sqR H L = (ints B, true)
  count : countR H L = ((c : Int), true)
  mean : meanR H L = (((q / g : Nat) : Int), ((c / g : Nat) : Int), true)
  gdef : g = Nat.gcd c q
  few : fewR H L = ((k : Int), true)
  whole : wholeR H L = (((Fw H L : Nat) : Int), true)
  len : B.length = H * L + 1
  sum : B.sum = c
  wsum : wk B (H * L + 1) = q
  last : B.getD (H * L) 0 = 1
  klt : k < H * L + 1
  kpos : 0 < B.getD k 0
  kmin : ∀ i, i < k → B.getD i 0 = 0
  area : H * L ≤ 120

theorem all_of {h l : Int} (hb : stripB h l = true) : ∃ H L c q g k : Nat, ∃ B : List Nat, h = H ∧ l = L ∧ AllOf H L c q g k B := by
  obtain ⟨H, L, rfl, rfl, h1, h2, h3, h4⟩ := strip_nat hb
  have hh : 1 ≤ H ∧ H < 5 := ⟨h1, h2⟩
  have hl : 1 ≤ L ∧ L ≤ 30 := ⟨h3, h4⟩
  have hab : H * L ≤ 4 * 30 := Nat.mul_le_mul (by omega) hl.2
  have e : sqR H L = (ints (padN (Bn H L 0) (H * L + 1)), true) := by
    unfold sqR
    rw [if_pos hb, Int.toNat_natCast, Int.toNat_natCast, sqL_ints hh hl.2]
  have hlen : (padN (Bn H L 0) (H * L + 1)).length = H * L + 1 := by
    have := sqL_len hh hl
    rw [sqL_ints hh hl.2] at this
    unfold ints at this
    rwa [List.length_map] at this
  obtain ⟨k, k1, k2, k3, k4⟩ := fewI_ex (sqL_some hh hl)
  rw [sqL_ints hh hl.2] at k1 k2 k3 k4
  rw [ints_getD] at k2
  have hkl : k < H * L + 1 := by unfold ints at k1; rwa [List.length_map, hlen] at k1
  refine ⟨H, L, Cn H L 0, (Qn H L 0).2, Nat.gcd (Cn H L 0) (Qn H L 0).2, k, padN (Bn H L 0) (H * L + 1), rfl, rfl, ⟨hh, hl, rfl, Cn_any hh hl.2 (Nat.pow_pos (by omega)), rfl, Qn_small hh hl.2, e, countN hh hl, ?_, rfl, ?_, wholeN hh hl, hlen, ?_, ?_, ?_, hkl, by omega, fun i hi => ?_, by omega⟩⟩
  · unfold meanR
    rw [if_pos hb, Int.toNat_natCast, Int.toNat_natCast]
  · unfold fewR
    rw [e]
    dsimp only
    rw [k4]
    by_cases c : (k : Int) > 0
    · rw [if_pos c]
    · rw [if_neg c]
      have : k = 0 := by omega
      subst this
      rfl
  · rw [padN_sum, Bn_sum]
  · have hle : (padN (Bn H L 0) (H * L + 1)).length ≤ H * L + 1 := by omega
    have := wsum_eq _ hle
    unfold wk
    rw [← this, padN_wsum, Bn_wsum]
  · rw [padN_getD, Bn_last hh hl.2]
  · have := k3 i hi
    rw [ints_getD] at this
    omega

end Go.Proofs.Ytnmeehiahlfgaaa

namespace Go.Proofs.Ytnmeehiahlfgaaa
open Go Go.RowKit
set_option maxRecDepth 10000
set_option linter.unusedSimpArgs false

theorem zSum_ok (l : List Int) (hn : l.length ≤ 2 ^ 40) : Fn G.P 17 [.c (.list 1 (l.map r1))] (.one (aI (sumK 0 l l.length))) := by
  refine fn_of_body (G := G) Try.func17 rfl (by decide) (Nat.le_of_ble_eq_true rfl) ?_
  conv => whnf
  refine .inl ⟨Nat, fun i => l.length - i, fun i => i ≤ l.length, fun i => ⟨[(6, .one (.c (.d (.list 1 (l.map r1))))), (7, .one (.c (vI (l.length : Nat)))), (3, .one (.c (vI (sumK 0 l i)))), (8, .one (.c (vI i)))],
    [], _⟩, 0, Nat.zero_le _, weak_of rfl ?_ rfl (Nat.zero_le _), fun i hi => ?_⟩
  · rw [List.length_map]
    (repeat' first | exact rfl | exact trivial | apply And.intro | (simp [getE]; done))
  replace hi : i ≤ l.length := hi
  conv => whnf
  refine Br.mk (fun hb => ?_) (fun hb => ?_) <;> conv => whnf
  · have hlt : i < l.length := by simp at hb; omega
    refine ⟨by omega, by simp; omega, ?_⟩
    conv => whnf
    refine El.mk (fun el hel => ?_)
    obtain ⟨v, hv, rfl⟩ := r1_get hel
    conv => whnf
    have g1 : l.getD i 0 = v := by
      simp only [Int.toNat_natCast] at hv
      simp [List.getD, hv]
    have e3 : sumK 0 l (i + 1) = IntKind.i64.wrap (sumK 0 l i + v) := by rw [← g1]; rfl
    have hi1 : IntKind.i64.wrap ((i : Int) + 1) = ((i + 1 : Nat) : Int) := by rw [wrap_i64 _ (by omega) (by omega)]; omega
    refine ⟨i + 1, (by omega : i + 1 ≤ l.length), (by omega : l.length - (i + 1) < l.length - i), weak_of rfl ?_ rfl (Nat.zero_le _)⟩
    rw [hi1, ← e3]
    (repeat' first | exact rfl | exact trivial | apply And.intro | (simp [getE]; done))
  · have hie : i = l.length := by simp at hb; omega
    subst hie
    exact ⟨⟨rfl, trivial⟩, by simp [refVs, refCV]⟩

theorem zSame_ok (l : List Int) (hn : l.length ≤ 2 ^ 40) : Fn G.P 16 [.c (.list 1 (l.map r1)), .c (.list 1 (l.map r1))] (.one (aB true)) := by
  refine fn_of_body (G := G) Try.func16 rfl (by decide) (Nat.le_of_ble_eq_true rfl) ?_
  conv => whnf
  refine Br.mk (fun hb => ?_) (fun hb => ?_) <;> conv => whnf
  · simp at hb
  refine .inl ⟨Nat, fun i => l.length - i, fun i => i ≤ l.length, fun i => ⟨[(0, .one (.c (.d (.list 1 (l.map r1))))), (1, .one (.c (.d (.list 1 (l.map r1))))), (4, .one (.c (.d (.v (.bool false))))), (12, .one (.c (vI (l.length : Nat)))), (13, .one (.c (vI i)))], [], _⟩, 0, Nat.zero_le _, weak_of rfl ?_ rfl (Nat.zero_le _), fun i hi => ?_⟩
  · rw [List.length_map]
    (repeat' first | exact rfl | exact trivial | apply And.intro | (simp [getE]; done))
  replace hi : i ≤ l.length := hi
  conv => whnf
  refine Br.mk (fun hb1 => ?_) (fun hb1 => ?_) <;> conv => whnf
  · have hlt : i < l.length := by simp at hb1; omega
    have hg : l[i]? = some (l.getD i 0) := by simp [List.getD, List.getElem?_eq_getElem hlt]
    have hw : IntKind.i64.wrap ((i : Int) + 1) = ((i + 1 : Nat) : Int) := by rw [wrap_i64 _ (by omega) (by omega)]; omega
    have hx : (l.map r1)[((i : Int)).toNat]? = some [dI (l.getD i 0)] := by rw [Int.toNat_natCast, List.getElem?_map, hg]; rfl
    repeat' first
      | (refine draw_mk (by kernel_rfl) ?_; conv => whnf)
      | (refine El.get hx ?_; conv => whnf)
      | (refine And.intro (by simp; try omega) ?_; conv => whnf)
    refine Br.mk (fun hb2 => ?_) (fun hb2 => ?_) <;> conv => whnf
    · simp at hb2
    · refine ⟨i + 1, hlt, (by omega : l.length - (i + 1) < l.length - i), weak_of rfl ?_ rfl (Nat.zero_le _)⟩
      rw [hw]
      (repeat' first | exact rfl | exact trivial | apply And.intro | (simp [getE]; done))
  · exact ⟨⟨rfl, trivial⟩, by simp [refVs, refCV]⟩

end Go.Proofs.Ytnmeehiahlfgaaa

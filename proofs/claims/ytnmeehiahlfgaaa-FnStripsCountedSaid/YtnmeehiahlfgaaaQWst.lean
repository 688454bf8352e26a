/- Strips: by squares; the law. -/
import Derived.Test.YtnmeehiahlfgaaaQZz
import Derived.Test.YtnmeehiahlfgaaaQImark
namespace Go.Proofs.Ytnmeehiahlfgaaa
open Go Go.RowKit
set_option maxRecDepth 10000
set_option linter.unusedSimpArgs false

def gmB (T : List (List (List Int))) (k : Nat) : List (List GC) := gy T ++ List.replicate k [GC.d (.v (.slice none 0 0))]

theorem gmB_len (T : List (List (List Int))) (k : Nat) : (gmB T k).length = T.length + k := by simp [gmB, gy]

theorem gmB_next {T : List (List (List Int))} {k : Nat} : (gmB T (k + 1))[T.length]? = some [GC.d (.v (.slice none 0 0))] := by
  unfold gmB
  rw [List.getElem?_append_right (by simp [gy])]
  simp [gy, List.replicate_succ]

theorem gmB_put {T : List (List (List Int))} {k : Nat} {r : List (List Int)} : (gmB T (k + 1)).set T.length [GC.row 1 (r.map fun xs => [eD xs])] = gmB (T ++ [r]) k := by
  unfold gmB gy
  rw [List.set_append_right _ _ (by simp)]
  simp [List.replicate_succ]

/-- How many strips with each number of squares there are. -/
noncomputable def sqL (h l : Nat) : List Int := padTo (Bw h l 0) (h * l + 1)

theorem Ev_prop {α : Type} {one zero : α} {step : Nat → α → α → α} {h : Nat} (P : α → Prop) (h1 : P one) (h0 : P zero) (hs : ∀ i a b, P a → P b → P (step (i + 1) a b)) : ∀ (n left st : Nat), P (Ev one zero step h n left st)
  | 0, _, _ => h0
  | n + 1, left, st => by
    rw [Ev]
    split
    · split
      · exact h1
      · exact h0
    · split
      · exact Ev_prop P h1 h0 hs n _ _
      · rename_i r _
        have : ∀ (l : List Nat) (acc : α), P acc → P (l.foldl (fun acc i => match nx h left st r (i + 1) with
            | some (l, s) => step (i + 1) acc (Ev one zero step h n l s)
            | none => acc) acc) := by
          intro l
          induction l with
          | nil => exact fun _ h => h
          | cons x r ih =>
            intro acc hacc
            rw [List.foldl_cons]
            refine ih _ ?_
            split
            · exact hs _ _ _ hacc (Ev_prop P h1 h0 hs n _ _)
            · exact hacc
        exact this _ _ h0

def allW (l : List Int) : Prop := ∀ x ∈ l, IntKind.i64.wrap x = x

theorem addK_allW (p o : List Int) (hp : allW p) : ∀ k, allW (addK p o k)
  | 0 => hp
  | k + 1 => by
    unfold addK
    intro x hx
    rcases List.mem_or_eq_of_mem_set hx with hx | rfl
    · exact addK_allW p o hp k x hx
    · exact wrap_wrap _

theorem Bw_allW (h left st : Nat) : allW (Bw h left st) := by
  rw [Bw_eq]
  refine Ev_prop allW ?_ ?_ ?_ _ _ _
  · intro x hx; simp at hx; subst hx; decide
  · intro x hx; simp at hx
  · intro i a b ha _
    unfold stepL
    refine addK_allW _ _ ?_ _
    intro x hx
    unfold padTo at hx
    rcases List.mem_append.1 hx with hx | hx
    · exact ha x hx
    · rw [List.eq_of_mem_replicate hx]; decide

theorem stSquares_yes (h L : Nat) (hh : 1 ≤ h ∧ h < 5) (hL : 1 ≤ L ∧ L ≤ 30) : Fn G.P 30 [aI h, aI L] (.one (.c (.list 1 ((sqL h L).map r1)))) := by
  have hw0 : IntKind.i64.wrap ((L : Int) + 1) = ((L + 1 : Nat) : Int) := by rw [wrap_i64 _ (by omega) (by omega)]; omega
  have h256 := pow_le256 hh.2
  have hsh : (0 : Int) ≤ IntKind.i64.wrap (2 * (h : Int)) ∧ IntKind.i64.wrap (1 * (2 : Int) ^ (min (IntKind.i64.wrap (2 * (h : Int))).toNat IntKind.i64.bits : Nat)) = ((4 ^ h : Nat) : Int) := by
    have : ∀ k : Nat, k < 5 → IntKind.i64.wrap (1 * (2 : Int) ^ (min (IntKind.i64.wrap (2 * (k : Int))).toNat IntKind.i64.bits : Nat)) = ((4 ^ k : Nat) : Int) := by decide
    exact ⟨by rw [wrap_i64 _ (by omega) (by omega)]; omega, this h hh.2⟩
  refine fn_of_body (G := G) Try.func30 rfl (by decide) (Nat.le_of_ble_eq_true rfl) ?_
  conv => whnf
  rw [hw0]
  refine ⟨by omega, by omega, by simp; omega, by omega, .inl ?_⟩
  conv => whnf
  refine .inl ⟨Nat × List (List (List Int)), fun x => 40 - x.1, fun x => x.1 ≤ L + 1 ∧ x.2.length = x.1 ∧ ∀ r ∈ x.2, r = List.replicate (4 ^ h) [],
    fun x => ⟨[(0, .one (.c (vI h))), (1, .one (.c (vI L))), (5, .one (.c (.sl 0 0 1 0 (L + 1) (some (L + 1))))), (13, .one (.c (.sl 0 0 1 0 (L + 1) (some (L + 1))))), (14, .one (.c (vI ((L + 1 : Nat) : Int)))), (15, .one (.c (vI x.1)))],
      [(0, .grid 1 (gmB x.2 (L + 1 - x.1)))], _⟩, (0, []), ⟨Nat.zero_le _, rfl, by simp⟩, weak_of ?_ ?_ rfl (Nat.zero_le _), ?_⟩
  · simp [gmB, gy]
  · (repeat' first | exact rfl | exact trivial | apply And.intro | (simp [getE]; done))
  rintro ⟨i, T⟩ ⟨hi, hTl, hT⟩
  dsimp only at hi hTl hT ⊢
  have hi1 : IntKind.i64.wrap ((i : Int) + 1) = ((i + 1 : Nat) : Int) := by rw [wrap_i64 _ (by omega) (by omega)]; omega
  conv => whnf
  refine Br.mk (fun hb => ?_) (fun hb => ?_) <;> conv => whnf
  · have hlt : i < L + 1 := by simp at hb; omega
    obtain ⟨k, hk⟩ : ∃ k, L + 1 - i = k + 1 := ⟨L - i, by omega⟩
    refine ⟨hsh.1, ?_⟩
    conv => whnf
    have hz : IntKind.i64.wrap (1 * (2 : Int) ^ (min (IntKind.i64.wrap (2 * (h : Int))).toNat IntKind.i64.bits : Nat)) = ((4 ^ h : Nat) : Int) := hsh.2
    rw [hz]
    have hp : 0 < 4 ^ h := Nat.pow_pos (by omega)
    refine ⟨by omega, by omega, by show ((4 ^ h : Nat) : Int) * 24 ≤ 2 ^ 46; omega, by omega, .inr ?_⟩
    conv => whnf
    refine ⟨by omega, by omega, ?_⟩
    conv => whnf
    have hiN : 0 + ((i : Int)).toNat = T.length := by simp [hTl]
    refine ⟨by rw [gmB_len, hTl]; simp; omega, by simp, ElG.mk (fun el hel => ?_)⟩
    rw [hk, hiN, gmB_next] at hel
    obtain rfl := Option.some.inj hel
    refine ⟨rfl, ?_⟩
    conv => whnf
    have hrow0 : List.take (((4 ^ h : Nat) : Int)).toNat (List.replicate (((4 ^ h : Nat) : Int)).toNat [DC.v (.slice none 0 0)]) = (List.replicate (4 ^ h) ([] : List Int)).map fun xs => [eD xs] := by
      rw [Int.toNat_natCast]
      generalize 4 ^ h = N
      simp [eD]
    rw [hk, hiN, hrow0, gmB_put]
    refine ⟨(i + 1, T ++ [List.replicate (4 ^ h) []]), ⟨hlt, by simp [hTl], fun r hr => ?_⟩, (by show 40 - (i + 1) < 40 - i; omega), weak_of ?_ ?_ rfl (Nat.zero_le _)⟩
    · rcases List.mem_append.1 hr with hr | hr
      · exact hT r hr
      · simpa using hr
    · rw [show L + 1 - (i + 1) = k by omega]; rfl
    · rw [hi1]
      (repeat' first | exact rfl | exact trivial | apply And.intro | (simp [getE]; done))
  · have hiL : i = L + 1 := by simp at hb; omega
    subst hiL
    have e0 : gmB T (L + 1 - (L + 1)) = gy T := by unfold gmB; simp
    rw [e0]
    have ht : TabB h L T := ⟨hTl, fun r hr => by rw [hT r hr]; simp⟩
    have hg : GoodB h T := by
      intro left st r xs h1 h2 h3
      have := hT r (List.mem_of_getElem? h1)
      subst this
      exact absurd (List.eq_of_mem_replicate (List.mem_of_getElem? h2)) h3
    have hHL : IntKind.i64.wrap (IntKind.i64.wrap ((h : Int) * L) + 1) = ((h * L + 1 : Nat) : Int) := by
      have : h * L ≤ 4 * 30 := Nat.mul_le_mul (by omega) hL.2
      rw [show (h : Int) * L = ((h * L : Nat) : Int) by simp, wrap_i64 ((h * L : Nat) : Int) (by omega) (by omega), wrap_i64 _ (by omega) (by omega)]; omega
    have hHL2 : h * L ≤ 120 := Nat.mul_le_mul (by omega : h ≤ 4) hL.2
    rw [hHL]
    unfold sqL
    obtain ⟨N, hN⟩ : ∃ N, N = h * L := ⟨_, rfl⟩
    rw [← hN] at hHL2 ⊢
    refine ⟨by omega, by omega, by show ((N + 1 : Nat) : Int) * 8 ≤ 2 ^ 46; omega, by omega, ?_⟩
    conv => whnf
    have hp0 := Bw_pos hh 1000 L 0 (Nat.lt_of_lt_of_le (mu_small hh.2 hL.2) (by omega)) hL.2 (Nat.pow_pos (by omega)) rch_zero
    have hlen := Bw_len hh 1000 L 0 (Nat.lt_of_lt_of_le (mu_small hh.2 hL.2) (by omega)) hL.2 (Nat.pow_pos (by omega)) rch_zero
    rw [clS_zero, ← hN] at hlen
    have hbw := Bw_allW h L 0
    refine frameN [0] (stBy_rec hh hL.2 1000 L 0 (Nat.le_refl _) (Nat.pow_pos (by omega)) rch_zero (Nat.lt_of_lt_of_le (mu_small hh.2 hL.2) (by omega)) T ht hg) rfl (by decide) ⟨rfl, rfl⟩ rfl ?_
    rintro _ _ ⟨rfl, T', gs, ht', hg', rfl⟩
    refine ⟨[_], gs, rfl, Nat.le_refl _, rfl, ?_⟩
    obtain ⟨B, hB⟩ : ∃ B, B = Bw h L 0 := ⟨_, rfl⟩
    rw [← hB] at hp0 hlen hbw ⊢
    conv => whnf
    refine .inl ⟨Nat, fun k => B.length - k, fun k => k ≤ B.length, fun k => ⟨[(7, .one (.c (.sl 1 0 1 0 (N + 1) (some (N + 1))))), (34, .one (.c (.d (.list 1 (B.map r1))))), (35, .one (.c (vI (B.length : Nat)))), (36, .one (.c (vI k)))],
      [(0, .grid 1 (gy T')), (0, .arr 1 ((B.take k ++ List.replicate (N + 1 - k) 0).map r1))], _⟩, 0, Nat.zero_le _, weak_of ?_ ?_ rfl (Nat.zero_le _), fun k hk => ?_⟩
    · rw [Int.toNat_natCast]
      simp [r1]
    · rw [Int.toNat_natCast, List.length_map]
      (repeat' first | exact rfl | exact trivial | apply And.intro | (simp [getE]; done))
    replace hk : k ≤ B.length := hk
    conv => whnf
    refine Br.mk (fun hb2 => ?_) (fun hb2 => ?_) <;> conv => whnf
    · have hkl : k < B.length := by simp at hb2; omega
      have hBk : B[k]? = some (B.getD k 0) := by simp [List.getD, List.getElem?_eq_getElem hkl]
      have hrow : (B.take k ++ List.replicate (N + 1 - k) 0)[k]? = some 0 := by
        rw [List.getElem?_append_right (by simp; omega), List.length_take, Nat.min_eq_left hk, Nat.sub_self, show N + 1 - k = (N - k) + 1 by omega]; rfl
      refine ⟨by omega, by simp; omega, ?_⟩
      conv => whnf
      refine El.get (x := [dI (B.getD k 0)]) (by rw [Int.toNat_natCast, List.getElem?_map, hBk]; rfl) ?_
      conv => whnf
      refine ⟨by omega, by omega, ?_⟩
      conv => whnf
      refine ⟨by simp; omega, El.get (x := [dI 0]) (by rw [Int.toNat_natCast, Nat.zero_add, List.getElem?_map, hrow]; rfl) ?_⟩
      conv => whnf
      refine ⟨by omega, by omega, ?_⟩
      conv => whnf
      refine ⟨by simp; omega, ?_⟩
      conv => whnf
      have hval : IntKind.i64.wrap (0 + B.getD k 0) = B.getD k 0 := by
        rw [Int.zero_add]
        exact hbw _ (List.mem_of_getElem? hBk)
      have hout : ((B.take k ++ List.replicate (N + 1 - k) 0).map r1).set (0 + ((k : Int)).toNat) [DC.v (.int .i64 (IntKind.i64.wrap (0 + B.getD k 0)))] = (B.take (k + 1) ++ List.replicate (N + 1 - (k + 1)) 0).map r1 := by
        rw [hval, show 0 + ((k : Int)).toNat = k by simp, show [DC.v (.int .i64 (B.getD k 0))] = r1 (B.getD k 0) from rfl, ← List.map_set, List.set_append_right _ _ (by simp; omega), List.length_take, Nat.min_eq_left hk, Nat.sub_self, show N + 1 - k = (N + 1 - (k + 1)) + 1 by omega, List.replicate_succ, List.set_cons_zero,
          List.take_add_one, hBk]
        simp
      rw [hout]
      have hk1 : IntKind.i64.wrap ((k : Int) + 1) = ((k + 1 : Nat) : Int) := by rw [wrap_i64 _ (by omega) (by omega)]; omega
      refine ⟨k + 1, hkl, (by omega : B.length - (k + 1) < B.length - k), weak_of rfl ?_ rfl (Nat.zero_le _)⟩
      rw [hk1]
      (repeat' first | exact rfl | exact trivial | apply And.intro | (simp [getE]; done))
    · have hke : k = B.length := by simp at hb2; omega
      subst hke
      have : B.take B.length ++ List.replicate (N + 1 - B.length) 0 = padTo B (N + 1) := by unfold padTo; rw [List.take_length]
      rw [this]
      refine ⟨⟨?_, trivial⟩, by simp [refVs, refCV]⟩
      exact res_cell (by simp [objAt]) (by rw [List.length_map, padTo_len]; omega) r1_flat

noncomputable def sqR (h l : Int) : List Int × Bool := if stripB h l then (sqL h.toNat l.toNat, true) else ([], false)

theorem sqL_len {h l : Nat} (hh : 1 ≤ h ∧ h < 5) (hl : 1 ≤ l ∧ l ≤ 30) : (sqL h l).length = h * l + 1 := by
  have hlen := Bw_len hh 1000 l 0 (Nat.lt_of_lt_of_le (mu_small hh.2 hl.2) (by omega)) hl.2 (Nat.pow_pos (by omega)) rch_zero
  rw [clS_zero] at hlen
  unfold sqL
  rw [padTo_len]
  omega

theorem sqR_len (h l : Int) : (sqR h l).1.length ≤ 121 := by
  unfold sqR
  split
  · rename_i hb
    obtain ⟨a, b, rfl, rfl, h1, h2, h3, h4⟩ := strip_nat hb
    show (sqL a b).length ≤ 121
    rw [sqL_len ⟨h1, h2⟩ ⟨h3, h4⟩]
    have : a * b ≤ 4 * 30 := Nat.mul_le_mul (by omega) h4
    omega
  · exact Nat.zero_le _

theorem specSq (h l : Int) : Fn G.P 7 [aI h, aI l] (.tup [.c (.list 1 ((sqR h l).1.map r1)), aB (sqR h l).2]) := by
  unfold sqR
  by_cases hsb : stripB h l = true
  · rw [if_pos hsb]
    obtain ⟨a, b, rfl, rfl, h1, h2, h3, h4⟩ := strip_nat hsb
    have hs := stSquares_yes a b ⟨h1, h2⟩ ⟨h3, h4⟩
    show Fn G.P _ _ (.tup [.c (.list 1 ((sqL a b).map r1)), aB true])
    obtain ⟨R, hR⟩ : ∃ R, R = sqL a b := ⟨_, rfl⟩
    rw [← hR] at hs ⊢
    refine fn_of_body (G := G) Try.func7 rfl (by decide) (Nat.le_of_ble_eq_true rfl) ?_
    conv => whnf
    repeat' first
      | exact True.intro
      | (refine draw_mkF ?_ ?_ ?_; (focus (decide +kernel)); (focus (kernel_rfl)); conv => whnf)
      | (refine Both.mk ?_ ?_ <;> conv => whnf)
      | (refine NilQ.mk (fun hnil => ?_) ?_ <;> conv => whnf)
      | (refine draw_mk (by kernel_rfl) ?_; conv => whnf)
      | (refine Br.mk (fun hb => ?_) (fun hb => ?_) <;> conv => whnf)
      | (refine call_sn ?_ (stSize_ok ?_ ?_) ?_; (focus ((repeat' first | exact snapRow | exact snap_row (by simp; done) | exact rfl | exact trivial | apply And.intro | omega | (simp; done)); done)); conv => whnf)
      | (refine callP_sn ?_ (stSize_ok ?_ ?_) ?_; (focus ((repeat' first | exact snapRow | exact snap_row (by simp; done) | exact rfl | exact trivial | apply And.intro | omega | (simp; done)); done)); conv => whnf)
      | (refine call_sn ?_ (hs) ?_; (focus ((repeat' first | exact snapRow | exact snap_row (by simp; done) | exact rfl | exact trivial | apply And.intro | omega | (simp; done)); done)); conv => whnf)
      | (refine callP_sn ?_ (hs) ?_; (focus ((repeat' first | exact snapRow | exact snap_row (by simp; done) | exact rfl | exact trivial | apply And.intro | omega | (simp; done)); done)); conv => whnf)
      | (refine And.intro ?_ ?_; (focus (first | decide | omega | (simp at *; omega) | (simp_all; done))); conv => whnf)
    · rw [hsb] at hb; cases hb
    · exact ⟨⟨res_cell (by simp [objAt]) (by simp) r1_flat, rfl, trivial⟩, by simp [refVs, refCV]⟩
  · rw [if_neg hsb]
    have hb0 : stripB h l = false := by simpa using hsb
    refine fn_of_body (G := G) Try.func7 rfl (by decide) (Nat.le_of_ble_eq_true rfl) ?_
    conv => whnf
    repeat' first
      | exact True.intro
      | (refine draw_mkF ?_ ?_ ?_; (focus (decide +kernel)); (focus (kernel_rfl)); conv => whnf)
      | (refine Both.mk ?_ ?_ <;> conv => whnf)
      | (refine NilQ.mk (fun hnil => ?_) ?_ <;> conv => whnf)
      | (refine draw_mk (by kernel_rfl) ?_; conv => whnf)
      | (refine Br.mk (fun hb => ?_) (fun hb => ?_) <;> conv => whnf)
      | (refine call_sn ?_ (stSize_ok ?_ ?_) ?_; (focus ((repeat' first | exact snapRow | exact snap_row (by simp; done) | exact rfl | exact trivial | apply And.intro | omega | (simp; done)); done)); conv => whnf)
      | (refine callP_sn ?_ (stSize_ok ?_ ?_) ?_; (focus ((repeat' first | exact snapRow | exact snap_row (by simp; done) | exact rfl | exact trivial | apply And.intro | omega | (simp; done)); done)); conv => whnf)
    · exact ⟨⟨rfl, rfl, trivial⟩, by simp [refVs, refCV]⟩
    · simp_all

theorem implSq (h l : Int) : Fn G.P 6 [aI h, aI l] (.tup [.c (.list 1 ((sqR h l).1.map r1)), aB (sqR h l).2]) := by
  unfold sqR
  by_cases hsb : stripB h l = true
  · rw [if_pos hsb]
    obtain ⟨a, b, rfl, rfl, h1, h2, h3, h4⟩ := strip_nat hsb
    show Fn G.P _ _ (.tup [.c (.list 1 ((sqL a b).map r1)), aB true])
    have hlen := Bw_len ⟨h1, h2⟩ 1000 b 0 (Nat.lt_of_lt_of_le (mu_small h2 h4) (by omega)) h4 (Nat.pow_pos (by omega)) rch_zero
    rw [clS_zero] at hlen
    have hHL2 : a * b ≤ 120 := Nat.mul_le_mul (by omega : a ≤ 4) h4
    have hHL : IntKind.i64.wrap (IntKind.i64.wrap ((a : Int) * b) + 1) = ((a * b + 1 : Nat) : Int) := by
      rw [show (a : Int) * b = ((a * b : Nat) : Int) by simp, wrap_i64 ((a * b : Nat) : Int) (by omega) (by omega), wrap_i64 _ (by omega) (by omega)]; omega
    refine fn_of_body (G := G) Try.func6 rfl (by decide) (Nat.le_of_ble_eq_true rfl) ?_
    conv => whnf
    repeat' first
      | exact True.intro
      | (refine draw_mkF ?_ ?_ ?_; (focus (decide +kernel)); (focus (kernel_rfl)); conv => whnf)
      | (refine Both.mk ?_ ?_ <;> conv => whnf)
      | (refine NilQ.mk (fun hnil => ?_) ?_ <;> conv => whnf)
      | (refine draw_mk (by kernel_rfl) ?_; conv => whnf)
      | (refine Br.mk (fun hb => ?_) (fun hb => ?_) <;> conv => whnf)
      | (refine call_sn ?_ (isStripSize_ok ?_ ?_) ?_; (focus ((repeat' first | exact snapRow | exact snap_row (by simp; done) | exact rfl | exact trivial | apply And.intro | omega | (simp; done)); done)); conv => whnf)
      | (refine callP_sn ?_ (isStripSize_ok ?_ ?_) ?_; (focus ((repeat' first | exact snapRow | exact snap_row (by simp; done) | exact rfl | exact trivial | apply And.intro | omega | (simp; done)); done)); conv => whnf)
    · rw [hsb] at hb; cases hb
    rw [hHL]
    unfold sqL
    obtain ⟨N, hN⟩ : ∃ N, N = a * b := ⟨_, rfl⟩
    rw [← hN] at hlen hHL2 ⊢
    refine ⟨by omega, by omega, by show ((N + 1 : Nat) : Int) * 8 ≤ 2 ^ 46; omega, by omega, ?_⟩
    conv => whnf
    refine tally_c ⟨h1, h2⟩ ⟨h3, h4⟩ ?_
    conv => whnf
    refine ⟨trivial, ?_⟩
    unfold Bw at hlen ⊢
    generalize (Tw a b 0).1 = B at hlen ⊢
    conv => whnf
    refine ⟨by simp, by rw [List.length_map, Int.toNat_natCast]; exact hlen, ?_⟩
    conv => whnf
    have e1 : spliceL (List.replicate (((N + 1 : Nat) : Int)).toNat [DC.v (.int .i64 0)]) (B.map r1) 0 = (padTo B (N + 1)).map r1 := by
      unfold spliceL padTo
      rw [Int.toNat_natCast]
      simp [r1, List.drop_replicate]
    rw [e1]
    exact ⟨⟨res_cell (by simp [objAt]) (by rw [Int.toNat_natCast, List.length_map, padTo_len]; omega) r1_flat, rfl, trivial⟩, by simp [refVs, refCV]⟩
  · rw [if_neg hsb]
    have hb0 : stripB h l = false := by simpa using hsb
    refine fn_of_body (G := G) Try.func6 rfl (by decide) (Nat.le_of_ble_eq_true rfl) ?_
    conv => whnf
    repeat' first
      | exact True.intro
      | (refine draw_mkF ?_ ?_ ?_; (focus (decide +kernel)); (focus (kernel_rfl)); conv => whnf)
      | (refine Both.mk ?_ ?_ <;> conv => whnf)
      | (refine NilQ.mk (fun hnil => ?_) ?_ <;> conv => whnf)
      | (refine draw_mk (by kernel_rfl) ?_; conv => whnf)
      | (refine Br.mk (fun hb => ?_) (fun hb => ?_) <;> conv => whnf)
      | (refine call_sn ?_ (isStripSize_ok ?_ ?_) ?_; (focus ((repeat' first | exact snapRow | exact snap_row (by simp; done) | exact rfl | exact trivial | apply And.intro | omega | (simp; done)); done)); conv => whnf)
      | (refine callP_sn ?_ (isStripSize_ok ?_ ?_) ?_; (focus ((repeat' first | exact snapRow | exact snap_row (by simp; done) | exact rfl | exact trivial | apply And.intro | omega | (simp; done)); done)); conv => whnf)
    · exact ⟨⟨rfl, rfl, trivial⟩, by simp [refVs, refCV]⟩
    · simp_all

end Go.Proofs.Ytnmeehiahlfgaaa

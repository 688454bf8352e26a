/- Strips: the reference's table, made. -/
import Derived.Test.YtbmaofepmheeeaaHst
namespace Go.Proofs.Ytbmaofepmheeeaa
open Go Go.RowKit
set_option maxRecDepth 10000
set_option linter.unusedSimpArgs false

/-- A table of which some rows are not made yet. -/
def gmix (T : List (List Int)) (k : Nat) : List (List GC) := gx T ++ List.replicate k [GC.d (.v (.slice none 0 0))]

theorem gmix_len (T : List (List Int)) (k : Nat) : (gmix T k).length = T.length + k := by simp [gmix, gx]

theorem gmix_next {T : List (List Int)} {k : Nat} : (gmix T (k + 1))[T.length]? = some [GC.d (.v (.slice none 0 0))] := by
  unfold gmix
  rw [List.getElem?_append_right (by simp [gx])]
  simp [gx, List.replicate_succ]

theorem gmix_put {T : List (List Int)} {k : Nat} {r : List Int} : (gmix T (k + 1)).set T.length [GC.row 1 (r.map r1)] = gmix (T ++ [r]) k := by
  unfold gmix
  rw [List.set_append_right _ _ (by simp [gx])]
  simp [gx, List.replicate_succ]

theorem gmix_last {T : List (List Int)} {k : Nat} {r : List Int} : (gmix (T ++ [r]) k)[T.length]? = some [GC.row 1 (r.map r1)] := by
  unfold gmix
  rw [List.getElem?_append_left (by simp [gx])]
  simp [gx]

theorem gmix_row {T : List (List Int)} {k p : Nat} {r : List Int} (hp : p = T.length) : rowAt 1 (gmix (T ++ [r]) k) p = some (1, r.map r1) := by
  unfold rowAt
  rw [Nat.div_one, Nat.mod_one, hp, gmix_last]
  rfl

theorem gmix_set {T : List (List Int)} {k p j : Nat} {r : List Int} {v : Int} (hp : p = T.length) : setG 1 (gmix (T ++ [r]) k) p (.row 1 ((r.map r1).set j [dI v])) = gmix (T ++ [r.set j v]) k := by
  unfold setG
  rw [Nat.div_one, Nat.mod_one, hp, gmix_last]
  unfold gmix
  simp only [List.set_cons_zero]
  rw [List.set_append_left _ _ (by simp [gx])]
  congr 1
  unfold gx
  rw [List.map_append, List.set_append_right _ _ (by simp)]
  simp only [List.length_map, Nat.sub_self, List.map_cons, List.map_nil, List.set_cons_zero, List.map_set, List.map_append]
  rfl

def rowJ (n j : Nat) : List Int := List.replicate j (-1) ++ List.replicate (n - j) 0

theorem rowJ_set {n j : Nat} (hj : j < n) : (rowJ n j).set j (-1) = rowJ n (j + 1) := by
  unfold rowJ
  rw [List.set_append_right _ _ (by simp), List.length_replicate, Nat.sub_self, show n - j = (n - (j + 1)) + 1 by omega, List.replicate_succ, List.set_cons_zero, List.replicate_succ']
  simp

theorem rowJ_len {n j : Nat} (hj : j ≤ n) : (rowJ n j).length = n := by simp [rowJ]; omega

theorem stWays_x {h L wo : Nat} (hh : 1 ≤ h ∧ h < 5) (hL : L ≤ 30) : CallX G.P 45 [.c (vI h), .c (vI L), .c (vI wo)] []
    (fun sv objs1 => ∃ T gs, TabL h L T ∧ GoodT h wo T ∧ sv = .one (.c (.sl 0 0 1 0 (L + 1) (some (L + 1)))) ∧ objs1 = (0, .grid 1 (gx T)) :: gs) := by
  have hw0 : IntKind.i64.wrap ((L : Int) + 1) = ((L + 1 : Nat) : Int) := by rw [wrap_i64 _ (by omega) (by omega)]; omega
  have h256 := pow_le256 hh.2
  have hsh : (0 : Int) ≤ IntKind.i64.wrap (2 * (h : Int)) ∧ IntKind.i64.wrap (1 * (2 : Int) ^ (min (IntKind.i64.wrap (2 * (h : Int))).toNat IntKind.i64.bits : Nat)) = ((4 ^ h : Nat) : Int) := by
    have : ∀ k : Nat, k < 5 → IntKind.i64.wrap (1 * (2 : Int) ^ (min (IntKind.i64.wrap (2 * (k : Int))).toNat IntKind.i64.bits : Nat)) = ((4 ^ k : Nat) : Int) := by decide
    exact ⟨by rw [wrap_i64 _ (by omega) (by omega)]; omega, this h hh.2⟩
  refine call_body (G := G) Try.func45 rfl (by decide) (Nat.le_of_ble_eq_true rfl) ?_
  conv => whnf
  rw [hw0]
  refine ⟨by omega, by omega, by simp; omega, by omega, .inl ?_⟩
  conv => whnf
  refine .inl ⟨Nat, fun i => 40 - i, fun i => i ≤ L + 1,
    fun i => ⟨[(0, .one (.c (vI h))), (1, .one (.c (vI L))), (2, .one (.c (vI wo))), (7, .one (.c (.sl 0 0 1 0 (L + 1) (some (L + 1))))), (8, .one (.c (vI i)))],
      [(0, .grid 1 (gmix (List.replicate i (rowJ (4 ^ h) (4 ^ h))) (L + 1 - i)))], _⟩, 0, Nat.zero_le _, weak_of rfl ?_ rfl (Nat.zero_le _), ?_⟩
  · (repeat' first | exact rfl | exact trivial | apply And.intro | (simp [getE]; done))
  intro i hi
  replace hi : i ≤ L + 1 := hi
  conv => whnf
  refine Br.mk (fun hb => ?_) (fun hb => ?_) <;> conv => whnf
  · have hlt : i < L + 1 := by simp at hb; omega
    obtain ⟨k, hk⟩ : ∃ k, L + 1 - i = k + 1 := ⟨L - i, by omega⟩
    generalize hT : List.replicate i (rowJ (4 ^ h) (4 ^ h)) = T
    have hTl : T.length = i := by rw [← hT]; simp
    refine ⟨hsh.1, ?_⟩
    conv => whnf
    have hz : IntKind.i64.wrap (1 * (2 : Int) ^ (min (IntKind.i64.wrap (2 * (h : Int))).toNat IntKind.i64.bits : Nat)) = ((4 ^ h : Nat) : Int) := hsh.2
    rw [hz]
    have hp : 0 < 4 ^ h := Nat.pow_pos (by omega)
    refine ⟨by omega, by omega, by show ((4 ^ h : Nat) : Int) * 8 ≤ 2 ^ 46; omega, by omega, ?_⟩
    conv => whnf
    refine ⟨by omega, by omega, ?_⟩
    conv => whnf
    have hiN : 0 + ((i : Int)).toNat = T.length := by simp [hTl]
    refine ⟨by rw [gmix_len, hTl]; simp; omega, by simp, ElG.mk (fun el hel => ?_)⟩
    rw [hk, hiN, gmix_next] at hel
    obtain rfl := Option.some.inj hel
    refine ⟨rfl, ?_⟩
    conv => whnf
    have hrow0 : List.take (((4 ^ h : Nat) : Int)).toNat (List.replicate (((4 ^ h : Nat) : Int)).toNat [DC.v (.int .i64 0)]) = (rowJ (4 ^ h) 0).map r1 := by
      rw [Int.toNat_natCast]
      generalize 4 ^ h = N
      simp [rowJ, r1]
    rw [hk, hiN, hrow0, gmix_put]
    refine ⟨by omega, by omega, ?_⟩
    conv => whnf
    refine ⟨by rw [gmix_len]; simp; omega, ElG.mk (fun el2 hel2 => ?_)⟩
    rw [gmix_last] at hel2
    obtain rfl := Option.some.inj hel2
    conv => whnf
    generalize hN : 4 ^ h = N
    rw [hN] at h256 hp hT
    refine .inl ⟨Nat, fun j => 300 - j, fun j => j ≤ N,
      fun j => ⟨[(0, .one (.c (vI h))), (1, .one (.c (vI L))), (2, .one (.c (vI wo))), (7, .one (.c (.sl 0 0 1 0 (L + 1) (some (L + 1))))), (8, .one (.c (vI i))), (29, .one (.c (vI (N : Nat)))), (30, .one (.c (vI j)))],
        [(0, .grid 1 (gmix (T ++ [rowJ N j]) k))], _⟩, 0, Nat.zero_le _, weak_of rfl ?_ rfl (Nat.zero_le _), ?_⟩
    · rw [List.length_map, rowJ_len (Nat.zero_le _)]
      (repeat' first | exact rfl | exact trivial | apply And.intro | (simp [getE]; done))
    intro j hj
    replace hj : j ≤ N := hj
    conv => whnf
    refine Br.mk (fun hb1 => ?_) (fun hb1 => ?_) <;> conv => whnf
    · have hjl : j < N := by simp at hb1; omega
      have hj1 : IntKind.i64.wrap ((j : Int) + 1) = ((j + 1 : Nat) : Int) := by rw [wrap_i64 _ (by omega) (by omega)]; omega
      refine ⟨by omega, by omega, ?_⟩
      conv => whnf
      refine ⟨by rw [gmix_len]; simp; omega, ElG.mk (fun el3 hel3 => ?_)⟩
      rw [hiN, gmix_last] at hel3
      obtain rfl := Option.some.inj hel3
      conv => whnf
      refine ⟨by omega, by simp [rowJ_len hj]; omega, ?_⟩
      conv => whnf
      refine ⟨trivial, ?_⟩
      refine RowAt.mk' (gmix_row (by simp [hTl])) ?_
      refine ⟨by simp [rowJ_len hj]; omega, El.mk (fun el4 hel4 => ?_)⟩
      obtain ⟨v2, _, rfl⟩ := r1_get hel4
      conv => whnf
      refine ⟨j + 1, (by omega : j + 1 ≤ N), (by omega : 300 - (j + 1) < 300 - j), weak_of ?_ ?_ rfl (Nat.zero_le _)⟩
      · rw [show 0 + (j : Int).toNat = j by simp, show (0 + (i : Int).toNat) * 1 = T.length by simp [hTl]]
        refine congrArg (fun z => [(0, OB.grid 1 z)]) ?_
        refine (gmix_set (v := -1) rfl).trans ?_
        rw [rowJ_set hjl]
      · rw [hj1]
        (repeat' first | exact rfl | exact trivial | apply And.intro | (simp [getE]; done))
    · have hje : j = N := by simp at hb1; omega
      have hi1 : IntKind.i64.wrap ((i : Int) + 1) = ((i + 1 : Nat) : Int) := by rw [wrap_i64 _ (by omega) (by omega)]; omega
      refine ⟨i + 1, (by omega : i + 1 ≤ L + 1), (by omega : 40 - (i + 1) < 40 - i), weak_of ?_ ?_ rfl (Nat.zero_le _)⟩
      · have e1 : List.replicate (i + 1) (rowJ N N) = T ++ [rowJ N N] := by rw [List.replicate_succ', hT]
        rw [e1, hje, show L + 1 - (i + 1) = k by omega]
        rfl
      · rw [hi1]
        (repeat' first | exact rfl | exact trivial | apply And.intro | (simp [getE]; done))
  · have hie : i = L + 1 := by simp at hb; omega
    have hg0 : gmix (List.replicate i (rowJ (4 ^ h) (4 ^ h))) (L + 1 - i) = gx (List.replicate (L + 1) (rowJ (4 ^ h) (4 ^ h))) := by
      rw [hie, Nat.sub_self]; simp [gmix]
    have ht0 : TabL h L (List.replicate (L + 1) (rowJ (4 ^ h) (4 ^ h))) := ⟨by simp, fun r hr => by rw [List.eq_of_mem_replicate hr]; exact rowJ_len (Nat.le_refl _)⟩
    have hgd : GoodT h wo (List.replicate (L + 1) (rowJ (4 ^ h) (4 ^ h))) := by
      intro left st r v hr hv h0
      have := List.eq_of_mem_replicate (List.mem_of_getElem? hr)
      subst this
      have hm := List.mem_of_getElem? hv
      simp [rowJ] at hm
      omega
    rw [hg0]
    refine callX_drop (objs := [(0, .grid 1 (gx (List.replicate (L + 1) (rowJ (4 ^ h) (4 ^ h)))))]) (gs := []) (stCount_rec hh hL 1000 L 0 (Nat.le_refl _) (Nat.pow_pos (by omega)) (Nat.lt_of_lt_of_le (mu_small hh.2 hL) (by omega)) _ ht0 hgd) rfl ?_
    rintro _ _ ⟨rfl, T', gs', ht', hg', rfl⟩ _
    refine ⟨rfl, ?_⟩
    conv => whnf
    exact ⟨T', [], ht', hg', rfl, rfl⟩

end Go.Proofs.Ytbmaofepmheeeaa

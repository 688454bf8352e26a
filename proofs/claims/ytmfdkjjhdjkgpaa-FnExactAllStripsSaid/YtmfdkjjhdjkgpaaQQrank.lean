/- The strip of a rank, told without any program. -/
import Derived.Test.YtmfdkjjhdjkgpaaQPrank
import Derived.Test.YtmfdkjjhdjkgpaaQZx
import Derived.Test.YtmfdkjjhdjkgpaaQPcof
namespace Go.Proofs.Ytmfdkjjhdjkgpaa
open Go Go.RowKit
set_option maxRecDepth 10000
set_option maxHeartbeats 1000000
set_option linter.unusedSimpArgs false

/-- Ways are exact. -/
theorem waysA_Cn {h l X st : Nat} {R : List Nat} (hh : 1 ≤ h ∧ h < 5) (hl : l ≤ 30) (hat : At h l X st R) : waysA h l R = (Cn h (l - X) st : Nat) ∧ Cn h (l - X) st ≤ 205891132094649 := by
  have hc := Cn_any (left := l - X) hh (by omega) hat.lt
  refine ⟨?_, hc⟩
  rw [waysA_eq hh.2 hat, Vw_Cn]
  exact wrap_i64 _ (by omega) (by omega)

/-- The rank behind the sides 1 .. k. -/
noncomputable def pkI (h l : Nat) (R : List Nat) (y : Nat) (r : Int) : Nat → Int
  | 0 => r
  | k + 1 => pkI h l R y r k - waysA h l (putR R y (k + 1))

/-- The side with which the strip of a rank goes on. -/
structure PickOK (h l : Nat) (R : List Nat) (y : Nat) (r : Int) (s : Nat) : Prop where
  pos : 1 ≤ s
  le : s ≤ mst h l (R.getD y 0) R y
  pass : ∀ k, k + 1 < s → waysA h l (putR R y (k + 1)) ≤ pkI h l R y r k
  take : pkI h l R y r (s - 1) < waysA h l (putR R y s)

theorem PickOK.unique {h l y s t : Nat} {R : List Nat} {r : Int} (h1 : PickOK h l R y r s) (h2 : PickOK h l R y r t) : s = t := by
  rcases Nat.lt_trichotomy s t with g | g | g
  · have a := h2.pass (s - 1) (by have := h1.pos; omega)
    have b := h1.take
    rw [show s - 1 + 1 = s by have := h1.pos; omega] at a
    omega
  · exact g
  · have a := h1.pass (t - 1) (by have := h2.pos; omega)
    have b := h2.take
    rw [show t - 1 + 1 = t by have := h2.pos; omega] at a
    omega

theorem put_ways {h l X st y k : Nat} {R : List Nat} (hh : 1 ≤ h ∧ h < 5) (hl : l ≤ 30) (hX : X ≤ l) (hat : At h l X st R) (hy : freeS h st = some y) (hk : 1 ≤ k) (hm : k ≤ mst h l X R y) :
    ∃ a b, nx h (l - X) st y k = some (a, b) ∧ waysA h l (putR R y k) = (Cn h a b : Nat) ∧ Cn h a b ≤ 205891132094649 := by
  obtain ⟨X', st', a, b, n1, n2, n3, n4, _⟩ := put_at (1 : Nat) 0 stepN hh.2 hl hX hat hy hk hm
  obtain ⟨e1, e2⟩ := waysA_Cn hh hl n2
  refine ⟨a, b, n1, ?_, ?_⟩
  · rw [e1, Cn_eq, Cn_eq, n4]
  · rw [Cn_eq, n4, ← Cn_eq]; exact e2

/-- The ways with the sides 1 .. k together. -/
noncomputable def sumW (h l : Nat) (R : List Nat) (y : Nat) : Nat → Int
  | 0 => 0
  | k + 1 => sumW h l R y k + waysA h l (putR R y (k + 1))

theorem pkI_sum {h l y : Nat} {R : List Nat} {r : Int} : ∀ k, pkI h l R y r k = r - sumW h l R y k
  | 0 => by simp [pkI, sumW]
  | k + 1 => by rw [pkI, sumW, pkI_sum k]; omega

theorem ways_sum {h l X st y : Nat} {R : List Nat} (hh : 1 ≤ h ∧ h < 5) (hl : l ≤ 30) (hX : X < l) (hat : At h l X st R) (hy : freeS h st = some y) : waysA h l R = sumW h l R y (mst h l X R y) := by
  obtain ⟨e1, _⟩ := waysA_Cn hh hl hat
  rw [e1, Cn_eq, Es_put _ _ _ hh.2 (by omega) hat.lt (by omega) hy]
  have hmh : mst h l X R y ≤ h := mst_le hh.2
  have key : ∀ m, m ≤ h → (((List.range m).foldl (fun acc i => match nx h (l - X) st y (i + 1) with
      | some (l, s) => stepN (i + 1) acc (Es 1 0 stepN h l s)
      | none => acc) 0 : Nat) : Int) = sumW h l R y (min m (mst h l X R y)) := by
    intro m
    induction m with
    | zero => intro _; simp [sumW]
    | succ m ih =>
      intro hm
      rw [List.range_succ, List.foldl_append, List.foldl_cons, List.foldl_nil]
      by_cases c : m + 1 ≤ mst h l X R y
      · obtain ⟨a, b, n1, n2, _⟩ := put_ways hh hl (by omega) hat hy (by omega) c
        rw [n1]
        show ((stepN _ _ _ : Nat) : Int) = _
        have ih' := ih (by omega)
        rw [Nat.min_eq_left (by omega : m ≤ mst h l X R y)] at ih'
        rw [Nat.min_eq_left c, sumW, n2, Cn_eq, ← ih']
        show ((_ + _ : Nat) : Int) = _
        rw [Int.natCast_add]
      · have hn : nx h (l - X) st y (m + 1) = none := by
          cases hx : nx h (l - X) st y (m + 1) with
          | none => rfl
          | some p =>
            have := (nx_iff hh.2 (by omega) hat hy (by omega) hm).1 (by rw [hx]; rfl)
            exact (c this).elim
        rw [hn, Nat.min_eq_right (by omega)]
        dsimp only
        rw [ih (by omega), Nat.min_eq_right (by omega)]
  have := key h (Nat.le_refl _)
  rw [Nat.min_eq_right hmh] at this
  exact this

theorem pick_ex {h l X st y : Nat} {R : List Nat} {r : Int} (hh : 1 ≤ h ∧ h < 5) (hl : l ≤ 30) (hX : X < l) (hat : At h l X st R) (hy : freeS h st = some y) (hr : r < waysA h l R) : ∃ s, PickOK h l R y r s := by
  obtain ⟨_, ex⟩ := at_row hat hy
  have key : ∀ k, k ≤ mst h l X R y → (∃ s, PickOK h l R y r s) ∨ ∀ j, j < k → waysA h l (putR R y (j + 1)) ≤ pkI h l R y r j := by
    intro k
    induction k with
    | zero => exact fun _ => .inr fun j hj => by omega
    | succ k ih =>
      intro hk
      rcases ih (by omega) with g | g
      · exact .inl g
      · by_cases c : pkI h l R y r k < waysA h l (putR R y (k + 1))
        · exact .inl ⟨k + 1, ⟨by omega, by rw [ex]; exact hk, fun j hj => g j (by omega), c⟩⟩
        · refine .inr fun j hj => ?_
          rcases Nat.lt_or_ge j k with d | d
          · exact g j d
          · rw [show j = k by omega]; omega
  rcases key _ (Nat.le_refl _) with g | g
  · exact g
  · exfalso
    rw [ways_sum hh hl hX hat hy] at hr
    have hp : ∀ k, pkI h l R y r k < 0 → k ≤ mst h l X R y → False ∨ pkI h l R y r k < 0 := fun k h1 _ => .inr h1
    have h1 : pkI h l R y r (mst h l X R y) < 0 := by rw [pkI_sum]; omega
    rcases Nat.eq_zero_or_pos (mst h l X R y) with e | e
    · have hm1 : 1 ≤ mst h l X R y := by
        refine (mst_iff hh.2).2 fun k hk => ?_
        have : k = 0 := by omega
        subst this
        exact ⟨by have := (freeS_spec hy).1; omega, by simpa using ex, by omega⟩
      omega
    · have := g (mst h l X R y - 1) (by omega)
      have e2 : mst h l X R y = mst h l X R y - 1 + 1 := by omega
      rw [e2, pkI] at h1
      omega

theorem pick_lo {h l y s : Nat} {R : List Nat} {r : Int} (hp : PickOK h l R y r s) (hr : 0 ≤ r) : ∀ k, k < s → 0 ≤ pkI h l R y r k
  | 0, _ => hr
  | k + 1, hk => by
    have := hp.pass k (by omega)
    rw [pkI]
    omega

open Classical in
/-- Rows, what is left of the rank, and sides behind i squares. -/
noncomputable def rk (h l : Nat) (r : Int) : Nat → List Nat × Int × List Int
  | 0 => ([0, 0, 0, 0], r, [])
  | i + 1 => if e : ∃ s, PickOK h l (rk h l r i).1 (rowI (rk h l r i).1 h) (rk h l r i).2.1 s
      then (putR (rk h l r i).1 (rowI (rk h l r i).1 h) (Classical.choose e), pkI h l (rk h l r i).1 (rowI (rk h l r i).1 h) (rk h l r i).2.1 (Classical.choose e - 1), (rk h l r i).2.2 ++ [((Classical.choose e : Nat) : Int)])
      else rk h l r i

theorem rk_next {h l i s : Nat} {r r' : Int} {R : List Nat} {L : List Int} (e : rk h l r i = (R, r', L)) (hp : PickOK h l R (rowI R h) r' s) : rk h l r (i + 1) = (putR R (rowI R h) s, pkI h l R (rowI R h) r' (s - 1), L ++ [(s : Int)]) := by
  have hx : ∃ s, PickOK h l (rk h l r i).1 (rowI (rk h l r i).1 h) (rk h l r i).2.1 s := by rw [e]; exact ⟨s, hp⟩
  rw [rk, dif_pos hx]
  have hc := Classical.choose_spec hx
  generalize Classical.choose hx = t at hc
  rw [e] at hc ⊢
  dsimp only at hc ⊢
  rw [hc.unique hp]

theorem rk_stop {h l i : Nat} {r r' : Int} {R : List Nat} {L : List Int} (e : rk h l r i = (R, r', L)) (hp : ∀ s, ¬ PickOK h l R (rowI R h) r' s) : ∀ d, rk h l r (i + d) = (R, r', L)
  | 0 => e
  | d + 1 => by
    have ih := rk_stop e hp d
    show rk h l r (i + d + 1) = _
    rw [rk, dif_neg (by rw [ih]; exact fun ⟨s, hs⟩ => hp s hs), ih]

/-- The sides of the strip of a rank. -/
noncomputable def ranked (h l : Nat) (r : Int) : List Int := (rk h l r 121).2.2

/-- What holds behind i squares. -/
structure RkAt (h l : Nat) (r : Int) (i : Nat) (R : List Nat) (r' : Int) (L : List Int) (X st : Nat) : Prop where
  eq : rk h l r i = (R, r', L)
  at_ : At h l X st R
  le : X ≤ l
  lo : 0 ≤ r'
  hi : r' < waysA h l R
  len : L.length = i
  four : R.length = 4
  zero : ∀ k, h ≤ k → R.getD k 0 = 0
  area : i ≤ R.getD 0 0 + R.getD 1 0 + R.getD 2 0 + R.getD 3 0
  side : ∀ s ∈ L, 1 ≤ s ∧ s ≤ 4

theorem RkAt.many {h l i X st : Nat} {r r' : Int} {R : List Nat} {L : List Int} (hh : h < 5) (hl : l ≤ 30) (hk : RkAt h l r i R r' L X st) : i ≤ 120 := by
  have h1 := hk.area
  have h2 : ∀ k, k < 4 → R.getD k 0 ≤ 30 := fun k hk4 => by
    rcases Nat.lt_or_ge k h with g | g
    · have := hk.at_.le k g; omega
    · rw [hk.zero k g]; omega
  have := h2 0 (by omega); have := h2 1 (by omega); have := h2 2 (by omega); have := h2 3 (by omega)
  omega

theorem rk_start {h l : Nat} {r : Int} (hh : 1 ≤ h ∧ h < 5) (hl : l ≤ 30) (hr : 0 ≤ r ∧ r < (Cn h l 0 : Nat)) : RkAt h l r 0 [0, 0, 0, 0] r [] 0 0 := by
  have ha : At h l 0 0 [0, 0, 0, 0] := at_start hh
  refine ⟨rfl, ha, Nat.zero_le _, hr.1, ?_, rfl, rfl, fun k hk => ?_, Nat.zero_le _, fun s hs => by cases hs⟩
  · rw [(waysA_Cn hh hl ha).1]; exact hr.2
  · match k with
    | 0 => rfl
    | 1 => rfl
    | 2 => rfl
    | 3 => rfl
    | k + 4 => rfl

theorem rk_step {h l i X st y s : Nat} {r r' : Int} {R : List Nat} {L : List Int} (hh : 1 ≤ h ∧ h < 5) (hl : l ≤ 30) (hk : RkAt h l r i R r' L X st) (hy : freeS h st = some y) (hp : PickOK h l R y r' s) :
    ∃ X' st' a b, nx h (l - X) st y s = some (a, b) ∧ RkAt h l r (i + 1) (putR R y s) (pkI h l R y r' (s - 1)) (L ++ [(s : Int)]) X' st' := by
  obtain ⟨er, ex⟩ := at_row hk.at_ hy
  have hm := hp.le
  rw [ex] at hm
  have hs := hp.pos
  obtain ⟨X', st', a, b, n1, n2, n3, n4, _⟩ := put_at (1 : Nat) 0 stepN hh.2 hl hk.le hk.at_ hy hs hm
  have hc := (mst_iff hh.2).1 hm (s - 1) (by omega)
  have hsh : s ≤ h := Nat.le_trans hm (mst_le hh.2)
  have hc1 := hc.1
  refine ⟨X', st', a, b, n1, ⟨?_, n2, n3, pick_lo hp hk.lo _ (by omega), hp.take, by simp [hk.len], by simp [putR], fun k hk' => ?_, ?_, fun t ht => ?_⟩⟩
  · have := rk_next hk.eq (s := s) (by rw [er]; exact hp)
    rwa [er] at this
  · rcases Nat.lt_or_ge k 4 with g | g
    · rw [putR_get g, hk.zero k hk', if_neg (by omega)]
    · exact putR_beyond g
  · have ha := hk.area
    have hy1 := (freeS_spec hy).1
    rw [putR_get (i := 0) (by omega), putR_get (i := 1) (by omega), putR_get (i := 2) (by omega), putR_get (i := 3) (by omega)]
    have : y = 0 ∨ y = 1 ∨ y = 2 ∨ y = 3 := by omega
    rcases this with rfl | rfl | rfl | rfl
    · have : (if 0 ≤ 0 ∧ 0 < 0 + s then s else 0) = s := if_pos ⟨by omega, by omega⟩
      omega
    · have : (if 1 ≤ 1 ∧ 1 < 1 + s then s else 0) = s := if_pos ⟨by omega, by omega⟩
      omega
    · have : (if 2 ≤ 2 ∧ 2 < 2 + s then s else 0) = s := if_pos ⟨by omega, by omega⟩
      omega
    · have : (if 3 ≤ 3 ∧ 3 < 3 + s then s else 0) = s := if_pos ⟨by omega, by omega⟩
      omega
  · rcases List.mem_append.1 ht with g | g
    · exact hk.side t g
    · rw [List.mem_singleton.1 g]; omega

/-- The end. -/
theorem rk_end {h l i st : Nat} {r r' : Int} {R : List Nat} {L : List Int} (hh : h < 5) (hl : l ≤ 30) (hk : RkAt h l r i R r' L l st) : ranked h l r = L := by
  obtain ⟨y, hy⟩ := Option.isSome_iff_exists.1 hk.at_.free
  obtain ⟨er, ex⟩ := at_row hk.at_ hy
  have hstop : ∀ s, ¬ PickOK h l R (rowI R h) r' s := fun s hp => by
    rw [er] at hp
    have h1 := hp.le
    rw [ex] at h1
    have := (mst_iff hh).1 h1 0 hp.pos
    have := this.2.2
    omega
  have hm := hk.many hh hl
  have := rk_stop hk.eq hstop (121 - i)
  rw [show i + (121 - i) = 121 by omega] at this
  unfold ranked
  rw [this]

end Go.Proofs.Ytmfdkjjhdjkgpaa

/- Filled strips are cuts; plain. -/
import Derived.Test.YtmfdkjjhdjkgpaaQTrank
namespace Go.Proofs.Ytmfdkjjhdjkgpaa
open Go Go.RowKit
set_option maxRecDepth 10000
set_option maxHeartbeats 1000000
set_option linter.unusedSimpArgs false

theorem perm_sumI {l1 l2 : List Int} (h : l1.Perm l2) : l1.sum = l2.sum := by
  induction h with
  | nil => rfl
  | cons x _ ih => rw [List.sum_cons, List.sum_cons, ih]
  | swap x y l => simp only [List.sum_cons]; omega
  | trans _ _ ih1 ih2 => exact ih1.trans ih2

theorem chk_of {w h : Int} : ∀ (l pre : List S3) (area : Int), (∀ q ∈ l, placeB w h q = true) → l.Pairwise (fun a b => ovB b a = false ∧ lessB a b = true) → (∀ a ∈ pre, ∀ b ∈ l, ovB b a = false ∧ lessB a b = true) → area + (l.map fun q => q.2.2 * q.2.2).sum = w * h → cutChk w h pre l area = true
  | [], pre, area, _, _, _, h4 => by simpa [cutChk] using h4
  | s :: l, pre, area, h1, h2, h3, h4 => by
    rw [List.pairwise_cons] at h2
    simp only [cutChk, Bool.and_eq_true]
    refine ⟨?_, chk_of l (pre ++ [s]) _ (fun q hq => h1 q (by simp [hq])) h2.2 (fun a ha b hb => ?_) (by rw [List.map_cons, List.sum_cons] at h4; omega)⟩
    · unfold okB
      simp only [Bool.and_eq_true]
      refine ⟨h1 s (by simp), ?_, ?_⟩
      · simp only [List.all_eq_true, Bool.not_eq_true', Bool.not_eq_eq_eq_not, Bool.not_true, List.any_eq_false]
        intro a ha
        simp [(h3 a ha s (by simp)).1]
      · unfold lastB
        cases hp : pre.getLast? with
        | none => rfl
        | some p => exact (h3 p (List.mem_of_getLast? hp) s (by simp)).2
    · rcases List.mem_append.1 ha with g | g
      · exact h3 a g b (by simp [hb])
      · rw [List.mem_singleton.1 g]; exact h2.1 b hb

theorem good_of {w h : Int} {sq : List S3} (hw : 1 ≤ w ∧ w ≤ 500) (hh : 1 ≤ h ∧ h ≤ 500) (hn : 1 ≤ sq.length ∧ sq.length ≤ 30) (hp : ∀ q ∈ sq, placeB w h q = true) (hd : sq.Pairwise (fun a b => ovB b a = false)) (ha : (sq.map fun q => q.2.2 * q.2.2).sum = w * h) : goodCutB w h (sortI lessB sq) = true := by
  have hperm := sortI_perm lessB sq
  have hasc := sortI_asc lessB_asym lessB_ntrans sq
  have hsymm : ∀ a b : S3, ovB b a = false → ovB a b = false := fun a b g => by
    cases g2 : ovB a b with
    | false => rfl
    | true =>
      simp only [ovB, Bool.and_eq_true, decide_eq_true_eq] at g2
      simp only [ovB, Bool.and_eq_false_iff, decide_eq_false_iff_not] at g
      omega
  have hd2 : (sortI lessB sq).Pairwise (fun a b => ovB b a = false) := hperm.symm.pairwise hd (fun {a b} g => hsymm a b g)
  have hp2 : ∀ q ∈ sortI lessB sq, placeB w h q = true := fun q hq => hp q (hperm.mem_iff.1 hq)
  have hboth : (sortI lessB sq).Pairwise (fun a b => ovB b a = false ∧ lessB a b = true) := by
    refine (List.pairwise_and_iff.2 ⟨hd2, hasc⟩).imp_of_mem fun {a b} hma hmb g => ⟨g.1, ?_⟩
    have pa := hp2 a hma
    have pb := hp2 b hmb
    obtain ⟨g1, g2⟩ := g
    cases g3 : lessB a b with
    | true => rfl
    | false =>
      exfalso
      simp only [placeB, inB, Bool.and_eq_true, decide_eq_true_eq] at pa pb
      simp only [ovB, Bool.and_eq_false_iff, decide_eq_false_iff_not] at g1
      simp only [lessB, Bool.or_eq_false_iff, Bool.and_eq_false_imp, decide_eq_false_iff_not, beq_iff_eq] at g2 g3
      omega
  simp only [goodCutB, Bool.and_eq_true]
  refine ⟨by simp only [inB, decide_eq_true_eq]; omega, by simp only [inB, decide_eq_true_eq]; omega, by rw [sortI_len]; simp only [inB, decide_eq_true_eq]; omega, chk_of _ _ _ hp2 hboth (fun a ha => by cases ha) ?_⟩
  rw [Int.zero_add, ← ha]
  exact perm_sumI (hperm.map _)

theorem stA_app {h : Nat} {L t : List Int} : ∀ i, i ≤ L.length → stA h (L ++ t) i = stA h L i
  | 0, _ => rfl
  | i + 1, hi => by
    rw [stA, stA, stA_app i (by omega), List.getElem?_append_left (by omega)]

/-- What is told of the squares so far. -/
structure SqOK (h l : Nat) (R : List Nat) (sq : List S3) : Prop where
  fil : FilL h R sq
  place : ∀ q ∈ sq, 1 ≤ q.2.2 ∧ q.2.2 ≤ 4 ∧ 0 ≤ q.1 ∧ 0 ≤ q.2.1 ∧ q.1 + q.2.2 ≤ l ∧ q.2.1 + q.2.2 ≤ h
  free : sq.Pairwise (fun a b => ovB b a = false)
  area : (sq.map fun q => q.2.2 * q.2.2).sum = ((R.getD 0 0 + R.getD 1 0 + R.getD 2 0 + R.getD 3 0 : Nat) : Int)

theorem sq_step {h l X st y s : Nat} {R : List Nat} {sq : List S3} (hh : h < 5) (hat : At h l X st R) (hy : freeS h st = some y) (hs : 1 ≤ s) (hm : s ≤ mst h l X R y) (hq : SqOK h l R sq) : SqOK h l (putR R y s) (sq ++ [((X : Int), (y : Int), (s : Int))]) ∧ fitF h R s := by
  obtain ⟨er, ex⟩ := at_row hat hy
  have hc := (mst_iff hh).1 hm
  have hc1 := hc (s - 1) (by omega)
  unfold okI at hc1
  have hfit : fitF h R s := by
    refine ⟨hs, by rw [er]; omega, fun k hk => ?_⟩
    rw [er, ex]
    exact (hc k hk).2.1
  have hsh : s ≤ h := Nat.le_trans hm (mst_le hh)
  refine ⟨⟨?_, ?_, ?_, ?_⟩, hfit⟩
  · have := filL_step hh hq.fil hfit
    rwa [er, ex] at this
  · intro q hq'
    rcases List.mem_append.1 hq' with g | g
    · exact hq.place q g
    · rw [List.mem_singleton.1 g]
      dsimp only
      omega
  · rw [List.pairwise_append]
    refine ⟨hq.free, List.pairwise_singleton _ _, fun a ha b hb => ?_⟩
    rw [List.mem_singleton.1 hb]
    have pa := hq.place a ha
    cases g : ovB ((X : Int), (y : Int), (s : Int)) a with
    | false => rfl
    | true =>
      exfalso
      simp only [ovB, Bool.and_eq_true, decide_eq_true_eq] at g
      -- a common row, in which a lies at X or farther
      obtain ⟨r, hr⟩ : ∃ r : Nat, (r : Int) = max (y : Int) a.2.1 := ⟨(max (y : Int) a.2.1).toNat, by omega⟩
      have hr1 : y ≤ r ∧ r < y + s := by omega
      have hrX : R.getD r 0 = X := by
        have := (hc (r - y) (by omega)).2.1
        rwa [show y + (r - y) = r by omega] at this
      have hin : inSq a (a.1 + a.2.2 - 1).toNat r = true := by
        simp only [inSq, inI, Bool.and_eq_true, decide_eq_true_eq]
        omega
      have := (hq.fil r (by omega) (a.1 + a.2.2 - 1).toNat).2 ⟨a, ha, hin⟩
      omega
  · rw [List.map_append, List.sum_append, hq.area]
    simp only [List.map_cons, List.map_nil, List.sum_cons, List.sum_nil]
    have hyh := (freeS_spec hy).1
    rw [putR_get (i := 0) (by omega), putR_get (i := 1) (by omega), putR_get (i := 2) (by omega), putR_get (i := 3) (by omega)]
    have h1 : y = 0 ∨ y = 1 ∨ y = 2 ∨ y = 3 := by omega
    have h2 : s = 1 ∨ s = 2 ∨ s = 3 ∨ s = 4 := by omega
    rcases h1 with rfl | rfl | rfl | rfl <;> rcases h2 with rfl | rfl | rfl | rfl <;> first | omega | (simp; omega)

/-- The strip of a rank is a cut, if its squares are not too many. -/
theorem ranked_good {h l : Nat} {r : Int} (hh : 1 ≤ h ∧ h < 5) (hl : 1 ≤ l ∧ l ≤ 30) (hr : 0 ≤ r ∧ r < (Cn h l 0 : Nat)) (hn : (ranked h l r).length ≤ 30) : (cofL h (ranked h l r)).2 = true ∧ (cofL h (ranked h l r)).1.1 = l := by
  have key : ∀ (n i : Nat) (R : List Nat) (r' : Int) (L : List Int) (X st : Nat) (sq : List S3), 121 - i ≤ n → RkAt h l r i R r' L X st → SqOK h l R sq → stA h L L.length = some (R, sq) → (cofL h (ranked h l r)).2 = true ∧ (cofL h (ranked h l r)).1.1 = l := by
    intro n
    induction n with
    | zero =>
      intro i R r' L X st sq hn hk _ _
      have := hk.many hh.2 hl.2
      omega
    | succ n ih =>
      intro i R r' L X st sq hn' hk hq hst
      have hX := hk.le
      rcases Nat.lt_or_ge X l with g | g
      · obtain ⟨y, hy⟩ := Option.isSome_iff_exists.1 hk.at_.free
        obtain ⟨s, hp⟩ := pick_ex hh hl.2 g hk.at_ hy hk.hi
        obtain ⟨X', st', _, _, _, hk'⟩ := rk_step hh hl.2 hk hy hp
        obtain ⟨er, ex⟩ := at_row hk.at_ hy
        have hm := hp.le
        rw [ex] at hm
        have hs1 := hp.pos
        have hm4 := hk.many hh.2 hl.2
        obtain ⟨hq', hfit⟩ := sq_step hh.2 hk.at_ hy hs1 hm hq
        have hst' : stA h (L ++ [(s : Int)]) (L ++ [(s : Int)]).length = some (putR R y s, sq ++ [((X : Int), (y : Int), (s : Int))]) := by
          rw [List.length_append, List.length_singleton]
          have := stA_yes (s := s) (by rw [stA_app (t := [(s : Int)]) L.length (Nat.le_refl _)]; exact hst) (by rw [List.getElem?_append_right (Nat.le_refl _), Nat.sub_self]; rfl) hfit
          rwa [er, ex] at this
        exact ih _ _ _ _ _ _ _ (by omega) hk' hq' hst'
      · have : X = l := by omega
        subst this
        have hend := rk_end hh.2 hl.2 hk
        rw [hend] at hn ⊢
        have hrow : ∀ r, r < h → R.getD r 0 = X := fun r hr' => by
          have h1 := hk.at_.row r hr'
          have h2 := hk.at_.le r hr'
          omega
        have hlen : sq.length = L.length := by
          have : ∀ i R sq, stA h L i = some (R, sq) → i ≤ L.length → (∀ s ∈ L, 1 ≤ s ∧ s ≤ 4) → sq.length = i := by
            intro i
            induction i with
            | zero => intro R sq e _ _; cases e; rfl
            | succ i ih2 =>
              intro R sq e hi hsd
              obtain ⟨R0, sq0, t, e0, rfl⟩ := stA_inv e
              rw [List.length_append, ih2 R0 sq0 e0 (by omega) hsd]; rfl
          exact this _ _ _ hst (Nat.le_refl _) hk.side
        have harea := hq.area
        have hX0 : R.getD 0 0 = X := hrow 0 (by omega)
        have hsum : ((R.getD 0 0 + R.getD 1 0 + R.getD 2 0 + R.getD 3 0 : Nat) : Int) = (X : Int) * (h : Int) := by
          have hz := hk.zero
          have hc : h = 1 ∨ h = 2 ∨ h = 3 ∨ h = 4 := by omega
          rcases hc with rfl | rfl | rfl | rfl
          · have := hrow 0 (by omega); have := hz 1 (by omega); have := hz 2 (by omega); have := hz 3 (by omega); omega
          · have := hrow 0 (by omega); have := hrow 1 (by omega); have := hz 2 (by omega); have := hz 3 (by omega); omega
          · have := hrow 0 (by omega); have := hrow 1 (by omega); have := hrow 2 (by omega); have := hz 3 (by omega); omega
          · have := hrow 0 (by omega); have := hrow 1 (by omega); have := hrow 2 (by omega); have := hrow 3 (by omega); omega
        have h1 : 1 ≤ sq.length := by
          rcases Nat.eq_zero_or_pos sq.length with e | e
          · exfalso
            have : sq = [] := List.eq_nil_of_length_eq_zero e
            subst this
            obtain ⟨q, hq', _⟩ := (hq.fil 0 hh.1 0).1 (by omega)
            cases hq'
          · exact e
        have hgood : goodCutB (X : Int) (h : Int) (sortI lessB sq) = true := by
          refine good_of (by omega) (by omega) ⟨h1, by omega⟩ (fun q hq' => ?_) hq.free (by rw [harea, hsum])
          have := hq.place q hq'
          simp only [placeB, inB, Bool.and_eq_true, decide_eq_true_eq]
          omega
        have hcr : cofR (R.getD 0 0 : Nat) h sq = ((((X : Nat) : Int), (h : Int), sortI lessB sq), true) := by
          unfold cofR
          rw [hX0, if_pos hgood]
        unfold cofL
        rw [hst]
        dsimp only
        rw [hcr]
        rw [if_pos ⟨rfl, by dsimp only; omega⟩]
        exact ⟨rfl, rfl⟩
  refine key 121 0 _ _ _ _ _ [] (Nat.sub_le _ _) (rk_start hh hl.2 hr) ⟨fun r hr' x => ?_, (fun q hq => by cases hq), List.Pairwise.nil, rfl⟩ rfl
  have : ([0, 0, 0, 0] : List Nat).getD r 0 = 0 := by
    match r with
    | 0 => rfl
    | 1 => rfl
    | 2 => rfl
    | 3 => rfl
    | r + 4 => rfl
  rw [this]
  exact ⟨fun h => by omega, fun ⟨q, hq, _⟩ => by cases hq⟩

theorem row_sum {h l X st : Nat} {R : List Nat} (hh : 1 ≤ h ∧ h < 5) (hat : At h l X st R) (hz : ∀ k, h ≤ k → R.getD k 0 = 0) : R.getD 0 0 + R.getD 1 0 + R.getD 2 0 + R.getD 3 0 ≤ h * l := by
  have hle := hat.le
  have hc : h = 1 ∨ h = 2 ∨ h = 3 ∨ h = 4 := by omega
  rcases hc with rfl | rfl | rfl | rfl
  · have := hle 0 (by omega); have := hz 1 (by omega); have := hz 2 (by omega); have := hz 3 (by omega); omega
  · have := hle 0 (by omega); have := hle 1 (by omega); have := hz 2 (by omega); have := hz 3 (by omega); omega
  · have := hle 0 (by omega); have := hle 1 (by omega); have := hle 2 (by omega); have := hz 3 (by omega); omega
  · have := hle 0 (by omega); have := hle 1 (by omega); have := hle 2 (by omega); have := hle 3 (by omega); omega

/-- No more squares than cells; as many as cells at the first rank. -/
theorem ranked_len {h l : Nat} {r : Int} (hh : 1 ≤ h ∧ h < 5) (hl : 1 ≤ l ∧ l ≤ 30) (hr : 0 ≤ r ∧ r < (Cn h l 0 : Nat)) : (ranked h l r).length ≤ h * l ∧ (r = 0 → (ranked h l r).length = h * l) := by
  have key : ∀ (n i : Nat) (R : List Nat) (r' : Int) (L : List Int) (X st : Nat), 121 - i ≤ n → RkAt h l r i R r' L X st → (r = 0 → r' = 0 ∧ R.getD 0 0 + R.getD 1 0 + R.getD 2 0 + R.getD 3 0 = i) → (ranked h l r).length ≤ h * l ∧ (r = 0 → (ranked h l r).length = h * l) := by
    intro n
    induction n with
    | zero =>
      intro i R r' L X st hn hk _
      have := hk.many hh.2 hl.2
      omega
    | succ n ih =>
      intro i R r' L X st hn' hk h0
      have hX := hk.le
      have hm4 := hk.many hh.2 hl.2
      rcases Nat.lt_or_ge X l with g | g
      · obtain ⟨y, hy⟩ := Option.isSome_iff_exists.1 hk.at_.free
        obtain ⟨s, hp⟩ := pick_ex hh hl.2 g hk.at_ hy hk.hi
        obtain ⟨X', st', _, _, _, hk'⟩ := rk_step hh hl.2 hk hy hp
        refine ih _ _ _ _ _ _ (by omega) hk' fun hr0 => ?_
        obtain ⟨e1, e2⟩ := h0 hr0
        obtain ⟨er, ex⟩ := at_row hk.at_ hy
        have hm1 : 1 ≤ mst h l X R y := by have := hp.le; rw [ex] at this; have := hp.pos; omega
        have hpos : 0 < waysA h l (putR R y 1) := by
          obtain ⟨X2, st2, a, b, _, n2, n3, _, _⟩ := put_at (1 : Nat) 0 stepN hh.2 hl.2 hX hk.at_ hy (Nat.le_refl 1) hm1
          rw [(waysA_Cn hh hl.2 n2).1]
          have hrch : Rch h (l - X2) st2 := fun k hk2 => by
            have := n2.row k hk2
            have := n2.le k hk2
            omega
          have := Cn_pos hh 1000 (l - X2) st2 (Nat.lt_of_lt_of_le (mu_small hh.2 (by omega)) (by omega)) (by omega) n2.lt hrch
          omega
        have hs : s = 1 := by
          rcases Nat.lt_or_ge 1 s with g2 | g2
          · have h5 : waysA h l (putR R y 1) ≤ pkI h l R y r' 0 := hp.pass 0 (by omega)
            rw [pkI, e1] at h5
            omega
          · have := hp.pos; omega
        subst hs
        refine ⟨by simpa [pkI] using e1, ?_⟩
        have hyh := (freeS_spec hy).1
        rw [putR_get (i := 0) (by omega), putR_get (i := 1) (by omega), putR_get (i := 2) (by omega), putR_get (i := 3) (by omega)]
        have h1 : y = 0 ∨ y = 1 ∨ y = 2 ∨ y = 3 := by omega
        rcases h1 with rfl | rfl | rfl | rfl <;> simp at e2 ⊢ <;> omega
      · have : X = l := by omega
        subst this
        rw [rk_end hh.2 hl.2 hk, hk.len]
        have h1 := row_sum hh hk.at_ hk.zero
        have h2 := hk.area
        refine ⟨by omega, fun hr0 => ?_⟩
        obtain ⟨_, e2⟩ := h0 hr0
        have hrow : ∀ r, r < h → R.getD r 0 = X := fun r hr' => by
          have h1 := hk.at_.row r hr'
          have h2 := hk.at_.le r hr'
          omega
        have hz := hk.zero
        have hc : h = 1 ∨ h = 2 ∨ h = 3 ∨ h = 4 := by omega
        rcases hc with rfl | rfl | rfl | rfl
        · have := hrow 0 (by omega); have := hz 1 (by omega); have := hz 2 (by omega); have := hz 3 (by omega); omega
        · have := hrow 0 (by omega); have := hrow 1 (by omega); have := hz 2 (by omega); have := hz 3 (by omega); omega
        · have := hrow 0 (by omega); have := hrow 1 (by omega); have := hrow 2 (by omega); have := hz 3 (by omega); omega
        · have := hrow 0 (by omega); have := hrow 1 (by omega); have := hrow 2 (by omega); have := hrow 3 (by omega); omega
  exact key 121 0 _ _ _ _ _ (Nat.sub_le _ _) (rk_start hh hl.2 hr) fun e => ⟨e, rfl⟩

/-- Too many squares make no cut. -/
theorem ranked_bad {h l : Nat} (hh : 1 ≤ h ∧ h < 5) (hl : 1 ≤ l ∧ l ≤ 30) (hA : 30 < h * l) : (stF h (ranked h l 0)).2 = false := by
  have hc := Cn_pos hh 1000 l 0 (Nat.lt_of_lt_of_le (mu_small hh.2 hl.2) (by omega)) hl.2 (Nat.pow_pos (by omega)) rch_zero
  obtain ⟨_, h2⟩ := ranked_len (r := 0) hh hl ⟨Int.le_refl _, by omega⟩
  have h3 := h2 rfl
  unfold stF
  cases h4 : stA h (ranked h l 0) (ranked h l 0).length with
  | none => rfl
  | some p =>
    obtain ⟨R, sq⟩ := p
    have hlen : sq.length = (ranked h l 0).length := by
      have : ∀ i R sq, stA h (ranked h l 0) i = some (R, sq) → i ≤ (ranked h l 0).length → sq.length = i := by
        intro i
        induction i with
        | zero => intro R sq e _; cases e; rfl
        | succ i ih2 =>
          intro R sq e hi
          obtain ⟨R0, sq0, t, e0, rfl⟩ := stA_inv e
          rw [List.length_append, ih2 R0 sq0 e0 (by omega)]; rfl
      exact this _ _ _ h4 (Nat.le_refl _)
    dsimp only
    rw [cofR_many (by omega)]
    rfl

end Go.Proofs.Ytmfdkjjhdjkgpaa

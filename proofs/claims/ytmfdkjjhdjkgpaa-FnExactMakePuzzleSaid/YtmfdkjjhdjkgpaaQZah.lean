/- What clues tell of cuts; plain. -/
import Derived.Test.YtmfdkjjhdjkgpaaQZv
import Derived.Test.YtmfdkjjhdjkgpaaQEcut
import Derived.Test.YtmfdkjjhdjkgpaaQZf
import Derived.Test.YtmfdkjjhdjkgpaaQZaj
import Derived.Test.YtmfdkjjhdjkgpaaQZag
namespace Go.Proofs.Ytmfdkjjhdjkgpaa
open Go Go.RowKit
set_option maxRecDepth 10000
set_option linter.unusedSimpArgs false

/-- Squares that fill a rectangle just once. -/
structure Tiled (w h : Nat) (sq : List (Int × Int × Int)) : Prop where
  place : ∀ q ∈ sq, 0 ≤ q.1 ∧ 0 ≤ q.2.1 ∧ 1 ≤ q.2.2 ∧ q.1 + q.2.2 ≤ w ∧ q.2.1 + q.2.2 ≤ h
  cover : ∀ x y : Nat, x < w → y < h → ∃ q ∈ sq, inSq q x y = true
  one : ∀ a ∈ sq, ∀ b ∈ sq, ∀ x y : Nat, inSq a x y = true → inSq b x y = true → a = b
  nodup : sq.Nodup

theorem tiled_of_good {w h : Nat} {sq : List (Int × Int × Int)} (hg : goodCutB w h sq = true) : Tiled w h sq := by
  obtain ⟨_, _, _, hp, _, _⟩ := good_chk hg
  refine ⟨fun q hq => ?_, fun x y hx hy => good_cover hg (by omega) (by omega), fun a ha b hb x y h1 h2 => cell_eq hg ha hb h1 h2, good_nodup hg⟩
  have := hp q hq
  simp only [placeB, inB, Bool.and_eq_true, decide_eq_true_eq] at this
  omega

theorem Tiled.perm {w h : Nat} {sq ys : List (Int × Int × Int)} (ht : Tiled w h sq) (hp : ys.Perm sq) : Tiled w h ys :=
  ⟨fun q hq => ht.place q (hp.mem_iff.1 hq), fun x y hx hy => by obtain ⟨q, h1, h2⟩ := ht.cover x y hx hy; exact ⟨q, hp.mem_iff.2 h1, h2⟩,
    fun a ha b hb => ht.one a (hp.mem_iff.1 ha) b (hp.mem_iff.1 hb), hp.nodup_iff.2 ht.nodup⟩

/-- A square turned by a quarter to the right, in a rectangle of height h. -/
def turnQ (h : Int) (q : Int × Int × Int) : Int × Int × Int := (h - q.2.1 - q.2.2, q.1, q.2.2)

theorem inI_iff {X s : Int} {x : Nat} : inI X s x = true ↔ X ≤ x ∧ (x : Int) < X + s := by
  unfold inI
  rw [Bool.and_eq_true, decide_eq_true_eq, decide_eq_true_eq]

theorem inSq_all {q : Int × Int × Int} {x y : Nat} : inSq q x y = true ↔ (q.1 ≤ x ∧ (x : Int) < q.1 + q.2.2) ∧ q.2.1 ≤ y ∧ (y : Int) < q.2.1 + q.2.2 := by
  unfold inSq
  rw [Bool.and_eq_true, inI_iff, inI_iff]

theorem inSq_turn {h : Nat} {q : Int × Int × Int} {x y : Nat} (hx : x < h) : inSq (turnQ h q) x y = inSq q y (h - 1 - x) := by
  rw [Bool.eq_iff_iff, inSq_all, inSq_all]
  have : ((h - 1 - x : Nat) : Int) = h - 1 - x := by omega
  rw [this]
  show ((h : Int) - q.2.1 - q.2.2 ≤ x ∧ (x : Int) < (h : Int) - q.2.1 - q.2.2 + q.2.2) ∧ q.1 ≤ y ∧ (y : Int) < q.1 + q.2.2 ↔ _
  constructor
  · rintro ⟨⟨a, b⟩, c, d⟩; exact ⟨⟨c, d⟩, by omega, by omega⟩
  · rintro ⟨⟨a, b⟩, c, d⟩; exact ⟨⟨by omega, by omega⟩, a, b⟩

theorem Tiled.turn {w h : Nat} {sq : List (Int × Int × Int)} (ht : Tiled w h sq) : Tiled h w (sq.map (turnQ h)) := by
  have hinj : ∀ a b : Int × Int × Int, turnQ h a = turnQ h b → a = b := by
    rintro ⟨x, y, s⟩ ⟨x', y', s'⟩ e
    simp only [turnQ, Prod.mk.injEq] at e ⊢
    omega
  refine ⟨fun q hq => ?_, fun x y hx hy => ?_, fun a ha b hb x y h1 h2 => ?_, ?_⟩
  · obtain ⟨p, hp, rfl⟩ := List.mem_map.1 hq
    have := ht.place p hp
    simp only [turnQ]
    omega
  · obtain ⟨q, hq, hc⟩ := ht.cover y (h - 1 - x) hy (by omega)
    exact ⟨_, List.mem_map.2 ⟨q, hq, rfl⟩, by rw [inSq_turn hx]; exact hc⟩
  · obtain ⟨p, hp, rfl⟩ := List.mem_map.1 ha
    obtain ⟨r, hr, rfl⟩ := List.mem_map.1 hb
    have hx : x < h := by
      have := ht.place p hp
      have h1 : ((h : Int) - p.2.1 - p.2.2 ≤ x ∧ (x : Int) < (h : Int) - p.2.1 - p.2.2 + p.2.2) ∧ _ := inSq_all.1 h1
      omega
    rw [inSq_turn hx] at h1 h2
    rw [ht.one p hp r hr _ _ h1 h2]
  · rw [List.Nodup, List.pairwise_map]
    exact ht.nodup.imp fun {a b} hne e => hne (hinj _ _ e)

/-! Crosses. -/

/-- The square has a corner at a point. -/
def cornB (x y : Int) (s : Int × Int × Int) : Bool := (x == s.1 || x == s.1 + s.2.2) && (y == s.2.1 || y == s.2.1 + s.2.2)

def cornN (x y : Int) (sq : List (Int × Int × Int)) : Nat := (sq.filter (cornB x y)).length

def crossN (sq : List (Int × Int × Int)) : Nat := (sq.filter fun s => cornN s.1 s.2.1 sq == 4).length

theorem one_le {l : List (Int × Int × Int)} {p : Int × Int × Int → Bool} (hn : l.Nodup) (h : ∀ a ∈ l, ∀ b ∈ l, p a = true → p b = true → a = b) : (l.filter p).length ≤ 1 := by
  have hn2 : (l.filter p).Nodup := hn.filter p
  match hf : l.filter p with
  | [] => simp
  | [_] => simp
  | a :: b :: r =>
    have ha : a ∈ l.filter p := by rw [hf]; simp
    have hb : b ∈ l.filter p := by rw [hf]; simp
    rw [List.mem_filter] at ha hb
    have := h a ha.1 b hb.1 ha.2 hb.2
    rw [hf] at hn2
    simp [this] at hn2

theorem filter_or_le {l : List (Int × Int × Int)} {p q r : Int × Int × Int → Bool} (h : ∀ a ∈ l, p a = true → q a = true ∨ r a = true) : (l.filter p).length ≤ (l.filter q).length + (l.filter r).length := by
  induction l with
  | nil => simp
  | cons a l ih =>
    have ih := ih fun b hb => h b (by simp [hb])
    have ha := h a (by simp)
    simp only [List.filter_cons]
    cases hp : p a <;> cases hq : q a <;> cases hr : r a <;> simp_all <;> omega

/-- At the edges there are no crosses. -/
theorem corn_edge {w h : Nat} {sq : List (Int × Int × Int)} (ht : Tiled w h sq) {x y : Int} (hx : 0 ≤ x) (hy : 0 ≤ y) (he : x = 0 ∨ y = 0) : cornN x y sq ≤ 2 := by
  obtain ⟨X, rfl⟩ : ∃ n : Nat, x = n := ⟨x.toNat, by omega⟩
  obtain ⟨Y, rfl⟩ : ∃ n : Nat, y = n := ⟨y.toNat, by omega⟩
  have key : ∀ A B : Nat, ∀ p : Int × Int × Int → Bool, (∀ a ∈ sq, p a = true → inSq a A B = true) → (sq.filter p).length ≤ 1 := fun A B p hp =>
    one_le ht.nodup fun a ha b hb h1 h2 => ht.one a ha b hb A B (hp a ha h1) (hp b hb h2)
  unfold cornN
  rcases he with he | he
  · have k1 := key 0 Y (fun s => s.1 == 0 && s.2.1 == (Y : Int)) (fun a ha h => by
      have := ht.place a ha
      simp only [Bool.and_eq_true, beq_iff_eq] at h
      simp only [inSq, inI, Bool.and_eq_true, decide_eq_true_eq]
      omega)
    have k2 := key 0 (Y - 1) (fun s => s.1 == 0 && s.2.1 + s.2.2 == (Y : Int)) (fun a ha h => by
      have := ht.place a ha
      simp only [Bool.and_eq_true, beq_iff_eq] at h
      simp only [inSq, inI, Bool.and_eq_true, decide_eq_true_eq]
      omega)
    have := filter_or_le (l := sq) (p := cornB X Y) (q := fun s => s.1 == 0 && s.2.1 == (Y : Int)) (r := fun s => s.1 == 0 && s.2.1 + s.2.2 == (Y : Int)) (fun a ha h => by
      have := ht.place a ha
      simp only [cornB, Bool.and_eq_true, Bool.or_eq_true, beq_iff_eq] at h ⊢
      omega)
    omega
  · have k1 := key X 0 (fun s => s.2.1 == 0 && s.1 == (X : Int)) (fun a ha h => by
      have := ht.place a ha
      simp only [Bool.and_eq_true, beq_iff_eq] at h
      simp only [inSq, inI, Bool.and_eq_true, decide_eq_true_eq]
      omega)
    have k2 := key (X - 1) 0 (fun s => s.2.1 == 0 && s.1 + s.2.2 == (X : Int)) (fun a ha h => by
      have := ht.place a ha
      simp only [Bool.and_eq_true, beq_iff_eq] at h
      simp only [inSq, inI, Bool.and_eq_true, decide_eq_true_eq]
      omega)
    have := filter_or_le (l := sq) (p := cornB X Y) (q := fun s => s.2.1 == 0 && s.1 == (X : Int)) (r := fun s => s.2.1 == 0 && s.1 + s.2.2 == (X : Int)) (fun a ha h => by
      have := ht.place a ha
      simp only [cornB, Bool.and_eq_true, Bool.or_eq_true, beq_iff_eq] at h ⊢
      omega)
    omega

/-- Crosses as the program counts them. -/
theorem cross_eq {w h : Nat} {sq : List (Int × Int × Int)} (ht : Tiled w h sq) : (sq.filter fun s => !(s.1 == 0 || s.2.1 == 0) && cornN s.1 s.2.1 sq == 4).length = crossN sq := by
  unfold crossN
  congr 1
  refine List.filter_congr fun s hs => ?_
  by_cases he : s.1 = 0 ∨ s.2.1 = 0
  · have := ht.place s hs
    have hc := corn_edge ht (x := s.1) (y := s.2.1) (by omega) (by omega) he
    have h4 : (cornN s.1 s.2.1 sq == 4) = false := by simp; omega
    rw [h4, Bool.and_false]
  · have : (s.1 == 0 || s.2.1 == 0) = false := by simp; omega
    rw [this]; rfl

/-! Lines. -/

/-- Above the cell there is an edge. -/
def edgeB (sq : List (Int × Int × Int)) (x y : Nat) : Bool := sq.any fun s => (s.2.1 == (y : Int) || s.2.1 + s.2.2 == (y : Int)) && inI s.1 s.2.2 x

/-- A square lies across the line. -/
def crossB (sq : List (Int × Int × Int)) (x y : Nat) : Bool := sq.any fun s => decide (s.2.1 < y) && decide ((y : Int) < s.2.1 + s.2.2) && inI s.1 s.2.2 x

theorem inSq_iff {q : Int × Int × Int} {x y : Nat} : inSq q x y = true ↔ inI q.1 q.2.2 x = true ∧ q.2.1 ≤ y ∧ (y : Int) < q.2.1 + q.2.2 := by
  unfold inSq
  rw [Bool.and_eq_true]
  refine and_congr Iff.rfl ?_
  unfold inI
  rw [Bool.and_eq_true, decide_eq_true_eq, decide_eq_true_eq]

theorem edge_cross {w h : Nat} {sq : List (Int × Int × Int)} (ht : Tiled w h sq) {x y : Nat} (hx : x < w) (hy : 1 ≤ y ∧ y < h) : edgeB sq x y = !crossB sq x y := by
  cases hc : crossB sq x y with
  | true =>
    simp only [crossB, List.any_eq_true, Bool.and_eq_true, decide_eq_true_eq] at hc
    obtain ⟨s, hs, ⟨h1, h2⟩, h3⟩ := hc
    simp only [Bool.not_true, edgeB, List.any_eq_false, Bool.and_eq_true, Bool.or_eq_true, beq_iff_eq, not_and]
    rintro q hq he hi
    have hp := ht.place q hq
    rcases he with he | he
    · have := ht.one s hs q hq x y (inSq_iff.2 ⟨h3, by omega, h2⟩) (inSq_iff.2 ⟨hi, by omega, by omega⟩)
      subst this; omega
    · have := ht.one s hs q hq x (y - 1) (inSq_iff.2 ⟨h3, by omega, by omega⟩) (inSq_iff.2 ⟨hi, by omega, by omega⟩)
      subst this; omega
  | false =>
    simp only [crossB, List.any_eq_false, Bool.and_eq_true, decide_eq_true_eq, not_and] at hc
    obtain ⟨q, hq, hi⟩ := ht.cover x y hx hy.2
    obtain ⟨i1, i2, i3⟩ := inSq_iff.1 hi
    simp only [Bool.not_false, edgeB, List.any_eq_true, Bool.and_eq_true, Bool.or_eq_true, beq_iff_eq]
    refine ⟨q, hq, ?_, i1⟩
    by_cases g : q.2.1 < y
    · exact absurd i1 (hc q hq ⟨g, i3⟩)
    · left; omega

theorem edgeB_perm {sq ys : List (Int × Int × Int)} (hp : ys.Perm sq) (x y : Nat) : edgeB ys x y = edgeB sq x y := by
  rw [Bool.eq_iff_iff]
  simp only [edgeB, List.any_eq_true]
  exact ⟨fun ⟨s, h1, h2⟩ => ⟨s, hp.mem_iff.1 h1, h2⟩, fun ⟨s, h1, h2⟩ => ⟨s, hp.mem_iff.2 h1, h2⟩⟩

/-- How long the run is that ends before x. -/
def runA (p : Nat → Bool) : Nat → Nat
  | 0 => 0
  | x + 1 => if p x then runA p x + 1 else 0

def mostA (p : Nat → Bool) : Nat → Nat
  | 0 => 0
  | x + 1 => max (mostA p x) (runA p (x + 1))

/-- The longest run in the rows 1 .. y - 1. -/
def lineM (w : Nat) (p : Nat → Nat → Bool) : Nat → Nat
  | 0 => 0
  | y + 1 => if y = 0 then 0 else max (lineM w p y) (mostA (fun x => p x y) w)

theorem runA_le (p : Nat → Bool) : ∀ x, runA p x ≤ x
  | 0 => Nat.le_refl _
  | x + 1 => by
    have := runA_le p x
    unfold runA
    split <;> omega

theorem mostA_le (p : Nat → Bool) : ∀ x, mostA p x ≤ x
  | 0 => Nat.le_refl _
  | x + 1 => by
    have h1 := mostA_le p x
    have h2 := runA_le p (x + 1)
    unfold mostA
    omega

theorem lineM_le (w : Nat) (p : Nat → Nat → Bool) : ∀ y, lineM w p y ≤ w
  | 0 => Nat.zero_le _
  | y + 1 => by
    have h1 := lineM_le w p y
    have h2 := mostA_le (fun x => p x y) w
    unfold lineM
    split <;> omega

theorem runA_congr {p q : Nat → Bool} : ∀ x, (∀ i, i < x → p i = q i) → runA p x = runA q x
  | 0, _ => rfl
  | x + 1, h => by
    unfold runA
    rw [h x (by omega), runA_congr x fun i hi => h i (by omega)]

theorem mostA_congr {p q : Nat → Bool} : ∀ x, (∀ i, i < x → p i = q i) → mostA p x = mostA q x
  | 0, _ => rfl
  | x + 1, h => by
    unfold mostA
    rw [mostA_congr x fun i hi => h i (by omega), runA_congr (x + 1) h]

theorem lineM_congr {w : Nat} {p q : Nat → Nat → Bool} : ∀ y, (∀ i j, i < w → 1 ≤ j → j < y → p i j = q i j) → lineM w p y = lineM w q y
  | 0, _ => rfl
  | y + 1, h => by
    unfold lineM
    split
    · rfl
    · rw [lineM_congr y fun i j hi hj hj2 => h i j hi hj (by omega), mostA_congr w fun i hi => h i y hi (by omega) (by omega)]

/-- Lines: y, from, to. -/
abbrev L3 := Int × Int × Int

/-- The last line ends farther on. -/
def setLast (L : List L3) (e : Int) : List L3 := L.set (L.length - 1) ((L.getLast?.getD (0, 0, 0)).1, (L.getLast?.getD (0, 0, 0)).2.1, e)

def lnRow (p : Nat → Bool) (y : Nat) (L : List L3) : Nat → List L3
  | 0 => L
  | x + 1 => if p x then (if 0 < x ∧ p (x - 1) = true then setLast (lnRow p y L x) ((x + 1 : Nat) : Int) else lnRow p y L x ++ [((y : Int), (x : Int), ((x + 1 : Nat) : Int))]) else lnRow p y L x

def lnAll (p : Nat → Nat → Bool) (w : Nat) : Nat → List L3
  | 0 => []
  | y + 1 => lnRow (fun x => p x y) y (lnAll p w y) w

def lnLen (L : List L3) : Nat := L.foldl (fun m l => max m (l.2.2 - l.2.1).toNat) 0

theorem lnLen_snoc (L : List L3) (l : L3) : lnLen (L ++ [l]) = max (lnLen L) (l.2.2 - l.2.1).toNat := by simp [lnLen]

theorem lnRow_facts (p : Nat → Bool) (y : Nat) (L : List L3) : ∀ x, ∃ R, lnRow p y L x = L ++ R ∧ (∀ l ∈ R, l.1 = (y : Int)) ∧ lnLen R = mostA p x ∧ (0 < runA p x → ∃ R', R = R' ++ [((y : Int), ((x - runA p x : Nat) : Int), (x : Int))])
  | 0 => ⟨[], by simp [lnRow], by simp, rfl, fun h => by simp [runA] at h⟩
  | x + 1 => by
    obtain ⟨R, h1, h2, h3, h4⟩ := lnRow_facts p y L x
    have hle := runA_le p x
    cases hp : p x with
    | false =>
      refine ⟨R, by unfold lnRow; rw [hp]; simpa using h1, h2, by unfold mostA runA; rw [hp]; simpa using h3, fun h => ?_⟩
      unfold runA at h; rw [hp] at h; simp at h
    | true =>
      have hr : runA p (x + 1) = runA p x + 1 := by show (if p x = true then _ else _) = _; rw [if_pos hp]
      by_cases hb : 0 < x ∧ p (x - 1) = true
      · have hrun : 0 < runA p x := by
          obtain ⟨hx, hp1⟩ := hb
          obtain ⟨z, rfl⟩ : ∃ z, x = z + 1 := ⟨x - 1, by omega⟩
          rw [Nat.add_sub_cancel] at hp1
          unfold runA; rw [if_pos hp1]; omega
        obtain ⟨R', rfl⟩ := h4 hrun
        refine ⟨R' ++ [((y : Int), ((x - runA p x : Nat) : Int), ((x + 1 : Nat) : Int))], ?_, ?_, ?_, fun _ => ⟨R', by rw [hr, show x + 1 - (runA p x + 1) = x - runA p x by omega]⟩⟩
        · unfold lnRow
          rw [if_pos hp, if_pos hb, h1]
          unfold setLast
          rw [← List.append_assoc, List.getLast?_append]
          simp
        · intro l hl
          rcases List.mem_append.1 hl with hl | hl
          · exact h2 l (List.mem_append.2 (.inl hl))
          · rw [List.mem_singleton.1 hl]
        · rw [lnLen_snoc] at h3 ⊢
          show _ = max (mostA p x) (runA p (x + 1))
          rw [hr]
          dsimp only at h3 ⊢
          omega
      · have hrun : runA p x = 0 := by
          cases x with
          | zero => rfl
          | succ z =>
            have : p z = false := by
              cases hz : p z with
              | false => rfl
              | true => exact absurd ⟨Nat.succ_pos _, by rw [Nat.add_sub_cancel]; exact hz⟩ hb
            unfold runA; rw [this]; simp
        refine ⟨R ++ [((y : Int), (x : Int), ((x + 1 : Nat) : Int))], ?_, ?_, ?_, fun _ => ⟨R, by rw [hr, hrun]; simp⟩⟩
        · unfold lnRow
          rw [if_pos hp, if_neg hb, h1, List.append_assoc]
        · intro l hl
          rcases List.mem_append.1 hl with hl | hl
          · exact h2 l hl
          · rw [List.mem_singleton.1 hl]
        · rw [lnLen_snoc, h3]
          show _ = max (mostA p x) (runA p (x + 1))
          rw [hr, hrun]
          dsimp only
          omega

/-- The greatest length of the lines in the rows 1 .. h - 1, from m on. -/
def lnMax (h : Int) (L : List L3) (m : Nat) : Nat := L.foldl (fun m l => if 1 ≤ l.1 ∧ l.1 ≤ h - 1 then max m (l.2.2 - l.2.1).toNat else m) m

theorem lnMax_row {h : Int} {y : Int} : ∀ (R : List L3) (m : Nat), (∀ l ∈ R, l.1 = y) → lnMax h R m = if 1 ≤ y ∧ y ≤ h - 1 then max m (lnLen R) else m := by
  intro R m hy
  have key : ∀ (R : List L3) (m k : Nat), (∀ l ∈ R, l.1 = y) → lnMax h R (max m k) = if 1 ≤ y ∧ y ≤ h - 1 then max m (R.foldl (fun m l => max m (l.2.2 - l.2.1).toNat) k) else max m k := by
    intro R
    induction R with
    | nil => intro m k _; simp [lnMax]
    | cons l r ih =>
      intro m k hl
      have h1 := hl l (by simp)
      have h2 : ∀ q ∈ r, q.1 = y := fun q hq => hl q (List.mem_cons_of_mem _ hq)
      show lnMax h r (if 1 ≤ l.1 ∧ l.1 ≤ h - 1 then max (max m k) (l.2.2 - l.2.1).toNat else max m k) = _
      rw [h1]
      by_cases c : 1 ≤ y ∧ y ≤ h - 1
      · rw [if_pos c, if_pos c, Nat.max_assoc, ih _ _ h2, if_pos c]
        rfl
      · rw [if_neg c, if_neg c, ih _ _ h2, if_neg c]
  have := key R m 0 hy
  rw [Nat.max_zero] at this
  exact this

theorem lnMax_append (h : Int) (A B : List L3) (m : Nat) : lnMax h (A ++ B) m = lnMax h B (lnMax h A m) := by simp [lnMax]

theorem lnMax_all (h w : Nat) (p : Nat → Nat → Bool) (m : Nat) : ∀ n, n ≤ h + 1 → lnMax h (lnAll p w n) m = max m (lineM w p (min n h))
  | 0, _ => by simp [lnAll, lnMax, lineM]
  | n + 1, hn => by
    obtain ⟨R, h1, h2, h3, _⟩ := lnRow_facts (fun x => p x n) n (lnAll p w n) w
    unfold lnAll
    rw [h1, lnMax_append, lnMax_all h w p m n (by omega), lnMax_row R _ h2, h3]
    by_cases c : 1 ≤ (n : Int) ∧ (n : Int) ≤ (h : Int) - 1
    · rw [if_pos c, show min (n + 1) h = n + 1 by omega, show min n h = n by omega]
      show _ = max m (if n = 0 then 0 else _)
      rw [if_neg (by omega)]
      omega
    · rw [if_neg c]
      by_cases c0 : n = 0
      · subst c0
        rcases Nat.eq_zero_or_pos h with g | g
        · subst g; rfl
        · rw [show min (0 + 1) h = 1 by omega, show min 0 h = 0 by omega]
          rfl
      · rw [show min (n + 1) h = h by omega, show min n h = h by omega]

/-- The longest line of a cut and of the turned one. -/
def longN (w h : Nat) (sq : List (Int × Int × Int)) : Nat := max (lineM w (fun x y => !crossB sq x y) h) (lineM h (fun x y => !crossB (sq.map (turnQ h)) x y) w)

theorem crossB_perm {sq ys : List (Int × Int × Int)} (hp : ys.Perm sq) (x y : Nat) : crossB ys x y = crossB sq x y := by
  rw [Bool.eq_iff_iff]
  simp only [crossB, List.any_eq_true]
  exact ⟨fun ⟨s, h1, h2⟩ => ⟨s, hp.mem_iff.1 h1, h2⟩, fun ⟨s, h1, h2⟩ => ⟨s, hp.mem_iff.2 h1, h2⟩⟩

theorem long_eq {w h : Nat} {sq ys : List (Int × Int × Int)} (ht : Tiled w h sq) (hp : ys.Perm (sq.map (turnQ h))) :
    lnMax w (lnAll (edgeB ys) h (w + 1)) (lnMax h (lnAll (edgeB sq) w (h + 1)) 0) = longN w h sq := by
  rw [lnMax_all h w _ 0 _ (Nat.le_refl _), lnMax_all w h _ _ _ (Nat.le_refl _)]
  unfold longN
  rw [show min (h + 1) h = h by omega, show min (w + 1) w = w by omega, Nat.zero_max]
  congr 1
  · exact lineM_congr h fun i j hi hj hj2 => edge_cross ht hi ⟨hj, hj2⟩
  · refine lineM_congr w fun i j hi hj hj2 => ?_
    rw [edgeB_perm hp, edge_cross ht.turn hi ⟨hj, hj2⟩]

end Go.Proofs.Ytmfdkjjhdjkgpaa

namespace Go.Proofs.Ytmfdkjjhdjkgpaa
open Go Go.RowKit
set_option maxRecDepth 10000
set_option maxHeartbeats 1000000
set_option linter.unusedSimpArgs false

theorem Tiled.small {w h : Nat} {sq : List (Int × Int × Int)} (ht : Tiled w h sq) (hw : w ≤ 500) (hh : h ≤ 500) : ∀ q ∈ sq, smallSq q := by
  intro q hq
  have := ht.place q hq
  simp only [smallSq]
  omega

theorem ovB_cell (q : Int × Int × Int) (x y : Nat) : ovB q ((x : Int), (y : Int), 1) = inSq q x y := by
  rw [Bool.eq_iff_iff, inSq_all]
  simp only [ovB, Bool.and_eq_true, decide_eq_true_eq]
  omega

theorem bit_ok (b : Bool) : Fn G.P 103 [aB b] (.one (aI (if b then 1 else 0))) := by
  refine fn_of_body (G := G) Try.func103 rfl (by decide) (Nat.le_of_ble_eq_true rfl) ?_
  conv => whnf
  repeat' first
    | exact True.intro
    | (refine draw_mkF ?_ ?_ ?_; (focus (decide +kernel)); (focus (kernel_rfl)); conv => whnf)
    | (refine Both.mk ?_ ?_ <;> conv => whnf)
    | (refine OwnQ.own ?_; conv => whnf)
    | (refine NilQ.mk (fun hnil => ?_) ?_ <;> conv => whnf)
    | (refine draw_mk (by kernel_rfl) ?_; conv => whnf)
    | (refine Br.mk (fun hb => ?_) (fun hb => ?_) <;> conv => whnf)
    | (refine And.intro ?_ ?_; (focus (first | decide | omega | (simp at *; omega) | (simp_all; done))); conv => whnf)
  all_goals first | (simp_all [resOK_iff, resVs, resCell, resCells, refVs, refCV, refCs]; done) | (simp_all [resOK_iff, resVs, resCell, resCells, refVs, refCV, refCs]; omega)

theorem at_ok {w h : Nat} {sq : List (Int × Int × Int)} (ht : Tiled w h sq) (hw : w ≤ 500) (hh : h ≤ 500) (hn : sq.length ≤ 30) {x y k : Nat} {q : Int × Int × Int} (hx : x < w) (hy : y < h) (hk : sq[k]? = some q) (hq : inSq q x y = true) :
    Fn G.P 104 [.agg (dCut w h sq), aI x, aI y] (.one (aI k)) := by
  have hs := ht.small hw hh
  have hkl := (List.getElem?_eq_some_iff.1 hk).1
  refine fn_of_body (G := G) Try.func104 rfl (by decide) (Nat.le_of_ble_eq_true rfl) ?_
  conv => whnf
  repeat' first
    | exact True.intro
    | (refine draw_mkF ?_ ?_ ?_; (focus (decide +kernel)); (focus (kernel_rfl)); conv => whnf)
    | (refine Both.mk ?_ ?_ <;> conv => whnf)
    | (refine OwnQ.own ?_; conv => whnf)
    | (refine NilQ.mk (fun hnil => ?_) ?_ <;> conv => whnf)
    | (refine draw_mk (by kernel_rfl) ?_; conv => whnf)
    | (refine Br.mk (fun hb => ?_) (fun hb => ?_) <;> conv => whnf)
    | (refine call_body (G := G) Try.func137 rfl (by decide) (Nat.le_of_ble_eq_true rfl) ?_; conv => whnf)
    | (refine callP_text (call_body (G := G) Try.func137 rfl (by decide) (Nat.le_of_ble_eq_true rfl) ?_); conv => whnf)
    | (refine And.intro ?_ ?_; (focus (first | decide | omega | (simp at *; omega) | (simp_all; done))); conv => whnf)
  refine .inl ⟨Nat, fun i => k - i, fun i => i ≤ k, fun i => ⟨[(0, .one (.c (.d (.list 3 (sq.map r3))))), (1, .one (.c (.fn 138 [(1, 0, 0), (2, 0, 0)]))), (6, .one (.c (.d (.list 3 (sq.map r3))))), (7, .one (.c (vI (sq.map r3).length))), (8, .one (.c (vI i)))],
    [(0, .box [.d (dI w), .d (dI h), .d (.list 3 (sq.map r3))]), (0, .box [.d (dI x)]), (0, .box [.d (dI y)])], _⟩, 0, Nat.zero_le _, weak_of rfl ?_ rfl (Nat.le_refl _), fun i hi => ?_⟩
  · (repeat' first | exact rfl | exact trivial | apply And.intro | (simp [getE]; done))
  replace hi : i ≤ k := hi
  conv => whnf
  repeat' first
    | exact True.intro
    | (refine draw_mkF ?_ ?_ ?_; (focus (decide +kernel)); (focus (kernel_rfl)); conv => whnf)
    | (refine Both.mk ?_ ?_ <;> conv => whnf)
    | (refine OwnQ.own ?_; conv => whnf)
    | (refine NilQ.mk (fun hnil => ?_) ?_ <;> conv => whnf)
    | (refine draw_mk (by kernel_rfl) ?_; conv => whnf)
    | (refine Br.mk (fun hb => ?_) (fun hb => ?_) <;> conv => whnf)
    | (refine El.mk (fun el hel => ?_); obtain ⟨x', y', s', hk', rfl⟩ := r3_get hel; conv => whnf)
    | (refine call_body (G := G) Try.func138 rfl (by decide) (Nat.le_of_ble_eq_true rfl) ?_; conv => whnf)
    | (refine callP_text (call_body (G := G) Try.func138 rfl (by decide) (Nat.le_of_ble_eq_true rfl) ?_); conv => whnf)
    | (refine And.intro ?_ ?_; (focus (first | decide | omega | (simp at *; omega) | (simp_all; done))); conv => whnf)
  · have hk2 : sq[i]? = some (x', y', s') := by simpa using hk'
    have hsm := hs _ (List.mem_of_getElem? hk2)
    have hc : smallSq ((x : Int), (y : Int), 1) := by simp only [smallSq]; omega
    have hov := overlap_ok3 x' y' s' x y 1 hsm hc
    rw [ovB_cell] at hov
    have hat : inSq (x', y', s') x y = decide (i = k) := by
      by_cases e : i = k
      · subst e
        rw [hk] at hk2
        cases hk2
        rw [hq]; simp
      · cases hin : inSq (x', y', s') x y with
        | false => simp [e]
        | true =>
          have := ht.one _ (List.mem_of_getElem? hk2) _ (List.mem_of_getElem? hk) x y hin hq
          have hnd := ht.nodup
          rw [List.Nodup, List.pairwise_iff_getElem] at hnd
          have hil := (List.getElem?_eq_some_iff.1 hk2).1
          have g1 := (List.getElem?_eq_some_iff.1 hk2).2
          have g2 := (List.getElem?_eq_some_iff.1 hk).2
          exact absurd (by rw [g1, g2]; exact this) (hnd i k hil hkl (by omega))
    rw [hat] at hov
    repeat' first
      | exact True.intro
      | (refine draw_mkF ?_ ?_ ?_; (focus (decide +kernel)); (focus (kernel_rfl)); conv => whnf)
      | (refine Both.mk ?_ ?_ <;> conv => whnf)
      | (refine OwnQ.own ?_; conv => whnf)
      | (refine NilQ.mk (fun hnil => ?_) ?_ <;> conv => whnf)
      | (refine draw_mk (by kernel_rfl) ?_; conv => whnf)
      | (refine Br.mk (fun hb => ?_) (fun hb => ?_) <;> conv => whnf)
      | (refine call_sn ?_ (hov) ?_; (focus ((repeat' first | exact snapRow | exact snap_row (by simp; done) | exact rfl | exact trivial | apply And.intro | omega | (simp; done)); done)); conv => whnf)
      | (refine callP_sn ?_ (hov) ?_; (focus ((repeat' first | exact snapRow | exact snap_row (by simp; done) | exact rfl | exact trivial | apply And.intro | omega | (simp; done)); done)); conv => whnf)
      | (refine And.intro ?_ ?_; (focus (first | decide | omega | (simp at *; omega) | (simp_all; done))); conv => whnf)
    · simp only [decide_eq_true_eq] at hb
      subst hb
      exact ⟨⟨rfl, trivial⟩, by simp [refVs, refCV]⟩
    · simp only [decide_eq_false_iff_not] at hb
      have := wrap_len (n := i + 1) (by omega)
      refine ⟨i + 1, (by omega : i + 1 ≤ k), (by omega : k - (i + 1) < k - i), weak_of rfl ?_ rfl (Nat.le_refl _)⟩
      simp [envOK, getE]
      simpa using this
  · simp at hb
    omega

/-- Squares at the edge above, at the right, below and at the left. -/
def edge1 (w h : Int) (sq : List (Int × Int × Int)) (k : Nat) : Nat :=
  (sq.filter fun s => if k = 0 then s.2.1 == 0 else if k = 1 then s.1 + s.2.2 == w else if k = 2 then s.2.1 + s.2.2 == h else s.1 == 0).length

def edgeRow (w h : Int) (sq : List (Int × Int × Int)) : List (List DC) := [[dI (edge1 w h sq 0)], [dI (edge1 w h sq 1)], [dI (edge1 w h sq 2)], [dI (edge1 w h sq 3)]]

theorem edge1_snoc (w h : Int) (sq : List (Int × Int × Int)) (s : Int × Int × Int) (k : Nat) :
    edge1 w h (sq ++ [s]) k = edge1 w h sq k + if (if k = 0 then s.2.1 == 0 else if k = 1 then s.1 + s.2.2 == w else if k = 2 then s.2.1 + s.2.2 == h else s.1 == 0) then 1 else 0 := by
  unfold edge1
  rw [List.filter_append, List.length_append, List.filter_cons]
  congr 1
  generalize (if k = 0 then s.2.1 == 0 else if k = 1 then s.1 + s.2.2 == w else if k = 2 then s.2.1 + s.2.2 == h else s.1 == 0) = b
  cases b <;> rfl

theorem edge1_le (w h : Int) (sq : List (Int × Int × Int)) (k : Nat) : edge1 w h sq k ≤ sq.length := List.length_filter_le _ _

theorem atEdges_ok {w h : Nat} {sq : List (Int × Int × Int)} (ht : Tiled w h sq) (hw : w ≤ 500) (hh : h ≤ 500) (hn : sq.length ≤ 30) :
    Fn G.P 105 [.agg (dCut w h sq)] (.one (.c (.list 1 (edgeRow w h sq)))) := by
  have hs := ht.small hw hh
  refine fn_of_body (G := G) Try.func105 rfl (by decide) (Nat.le_of_ble_eq_true rfl) ?_
  conv => whnf
  repeat' first
    | exact True.intro
    | (refine draw_mkF ?_ ?_ ?_; (focus (decide +kernel)); (focus (kernel_rfl)); conv => whnf)
    | (refine Both.mk ?_ ?_ <;> conv => whnf)
    | (refine OwnQ.own ?_; conv => whnf)
    | (refine NilQ.mk (fun hnil => ?_) ?_ <;> conv => whnf)
    | (refine draw_mk (by kernel_rfl) ?_; conv => whnf)
    | (refine Br.mk (fun hb => ?_) (fun hb => ?_) <;> conv => whnf)
    | (refine And.intro ?_ ?_; (focus (first | decide | omega | (simp at *; omega) | (simp_all; done))); conv => whnf)
  refine .inl ⟨Nat, fun i => sq.length - i, fun i => i ≤ sq.length, fun i => ⟨[(1, .one (.c (.ptr 0 0 0))), (3, .one (.c (.sl 1 0 1 0 4 (some 4)))), (8, .one (.c (.d (.list 3 (sq.map r3))))), (9, .one (.c (vI (sq.map r3).length))), (10, .one (.c (vI i)))],
    [(0, .box [.d (dI w), .d (dI h), .d (.list 3 (sq.map r3))]), (0, .arr 1 (edgeRow w h (sq.take i)))], _⟩, 0, Nat.zero_le _, weak_of rfl ?_ rfl (Nat.zero_le _), fun i hi => ?_⟩
  · (repeat' first | exact rfl | exact trivial | apply And.intro | (simp [getE]; done))
  replace hi : i ≤ sq.length := hi
  conv => whnf
  refine Br.mk (fun hb => ?_) (fun hb => ?_) <;> conv => whnf
  · have hlt : i < sq.length := by simp at hb; omega
    obtain ⟨⟨x, y, s⟩, hc⟩ : ∃ q, sq[i]? = some q := ⟨_, List.getElem?_eq_getElem hlt⟩
    have hsm := hs _ (List.mem_of_getElem? hc)
    have hg : (sq.map r3)[((i : Int)).toNat]? = some [dI x, dI y, dI s] := by rw [Int.toNat_natCast, List.getElem?_map, hc]; rfl
    have e1 : IntKind.i64.wrap (x + s) = x + s := by simp only [smallSq] at hsm; exact wrap_i64 _ (by omega) (by omega)
    have e2 : IntKind.i64.wrap (y + s) = y + s := by simp only [smallSq] at hsm; exact wrap_i64 _ (by omega) (by omega)
    have ht1 : sq.take (i + 1) = sq.take i ++ [(x, y, s)] := take_next hc
    have b0 := bit_ok (y == 0)
    have b1 := bit_ok (x + s == (w : Int))
    have b2 := bit_ok (y + s == (h : Int))
    have b3 := bit_ok (x == 0)
    rw [← e1] at b1
    rw [← e2] at b2
    have hed : ∀ k, edge1 w h (sq.take i) k ≤ 30 := fun k => Nat.le_trans (edge1_le _ _ _ _) (by rw [List.length_take]; omega)
    clear hb
    repeat' first
      | (refine El.get hg ?_; conv => whnf)
      | exact True.intro
      | (refine draw_mkF ?_ ?_ ?_; (focus (decide +kernel)); (focus (kernel_rfl)); conv => whnf)
      | (refine Both.mk ?_ ?_ <;> conv => whnf)
      | (refine OwnQ.own ?_; conv => whnf)
      | (refine NilQ.mk (fun hnil => ?_) ?_ <;> conv => whnf)
      | (refine draw_mk (by kernel_rfl) ?_; conv => whnf)
      | (refine Br.mk (fun hb => ?_) (fun hb => ?_) <;> conv => whnf)
      | (refine El.get rfl ?_; conv => whnf)
      | (refine call_sn ?_ (b0) ?_; (focus ((repeat' first | exact snapRow | exact snap_row (by simp; done) | exact rfl | exact trivial | apply And.intro | omega | (simp; done)); done)); conv => whnf)
      | (refine callP_sn ?_ (b0) ?_; (focus ((repeat' first | exact snapRow | exact snap_row (by simp; done) | exact rfl | exact trivial | apply And.intro | omega | (simp; done)); done)); conv => whnf)
      | (refine call_sn ?_ (b1) ?_; (focus ((repeat' first | exact snapRow | exact snap_row (by simp; done) | exact rfl | exact trivial | apply And.intro | omega | (simp; done)); done)); conv => whnf)
      | (refine callP_sn ?_ (b1) ?_; (focus ((repeat' first | exact snapRow | exact snap_row (by simp; done) | exact rfl | exact trivial | apply And.intro | omega | (simp; done)); done)); conv => whnf)
      | (refine call_sn ?_ (b2) ?_; (focus ((repeat' first | exact snapRow | exact snap_row (by simp; done) | exact rfl | exact trivial | apply And.intro | omega | (simp; done)); done)); conv => whnf)
      | (refine callP_sn ?_ (b2) ?_; (focus ((repeat' first | exact snapRow | exact snap_row (by simp; done) | exact rfl | exact trivial | apply And.intro | omega | (simp; done)); done)); conv => whnf)
      | (refine call_sn ?_ (b3) ?_; (focus ((repeat' first | exact snapRow | exact snap_row (by simp; done) | exact rfl | exact trivial | apply And.intro | omega | (simp; done)); done)); conv => whnf)
      | (refine callP_sn ?_ (b3) ?_; (focus ((repeat' first | exact snapRow | exact snap_row (by simp; done) | exact rfl | exact trivial | apply And.intro | omega | (simp; done)); done)); conv => whnf)
      | (refine And.intro ?_ ?_; (focus (first | decide | omega | (simp [contentOK, objRd, objAt, peel, edgeRow]; done) | (simp [contentOK, objRd, objAt, peel, edgeRow]; omega) | (simp [contentOK, objRd, objAt, peel, edgeRow] at *; omega))); conv => whnf)
    have hwr : ∀ (k : Nat) (b : Bool), IntKind.i64.wrap ((edge1 w h (sq.take i) k : Int) + if b = true then 1 else 0) = ((edge1 w h (sq.take i) k + (if b = true then 1 else 0) : Nat) : Int) := fun k b => by
      have := hed k
      rw [wrap_i64 _ (by split <;> omega) (by split <;> omega)]
      split <;> omega
    have hwi : IntKind.i64.wrap ((i : Int) + 1) = ((i + 1 : Nat) : Int) := by rw [wrap_i64 _ (by omega) (by omega)]; omega
    refine ⟨i + 1, (by omega : i + 1 ≤ sq.length), (by omega : sq.length - (i + 1) < sq.length - i), weak_of ?_ ?_ rfl (Nat.zero_le _)⟩
    · rw [ht1]
      show _ = [(0, OB.box [.d (dI w), .d (dI h), .d (.list 3 (sq.map r3))]), (0, OB.arr 1 (edgeRow w h (sq.take i ++ [(x, y, s)])))]
      have g := fun k => edge1_snoc w h (sq.take i) (x, y, s) k
      have g0 := g 0
      have g1 := g 1
      have g2 := g 2
      have g3 := g 3
      simp only [if_true, reduceIte, Nat.one_ne_zero] at g0 g1 g2 g3
      unfold edgeRow
      rw [g0, g1, g2, g3, e1, e2, ← hwr, ← hwr, ← hwr, ← hwr]
      rfl
    · rw [hwi]
      (repeat' first | exact rfl | exact trivial | apply And.intro | (simp [getE]; done))
  · have hie : i = sq.length := by simp at hb; omega
    subst hie
    rw [List.take_length]
    exact ⟨⟨⟨rfl, rfl, by simp [edgeRow], by simp [edgeRow], by simp [edgeRow, flatDC]⟩, trivial⟩, by simp [refVs, refCV]⟩

theorem crosses_x {w h : Nat} {sq : List (Int × Int × Int)} (ht : Tiled w h sq) (hw : w ≤ 500) (hh : h ≤ 500) (hn : sq.length ≤ 30) :
    CallX G.P 106 [.agg [.d (dI w), .d (dI h), .d (.list 3 (sq.map r3))]] [] (fun sv objs' => sv = .one (.c (.sl 1 0 1 0 (crossN sq) none)) ∧ ∃ b xs gs, xs.length = crossN sq ∧ objs' = (0, .box b) :: (0, .arr 1 xs) :: gs) := by
  have hs := ht.small hw hh
  rw [← cross_eq ht]
  have hcn : ∀ l : List (Int × Int × Int), ∀ x y, cornN x y l ≤ l.length := fun l x y => List.length_filter_le _ _
  refine call_body (G := G) Try.func106 rfl (by decide) (Nat.le_of_ble_eq_true rfl) ?_
  conv => whnf
  repeat' first
    | exact True.intro
    | (refine draw_mkF ?_ ?_ ?_; (focus (decide +kernel)); (focus (kernel_rfl)); conv => whnf)
    | (refine Both.mk ?_ ?_ <;> conv => whnf)
    | (refine OwnQ.own ?_; conv => whnf)
    | (refine NilQ.mk (fun hnil => ?_) ?_ <;> conv => whnf)
    | (refine draw_mk (by kernel_rfl) ?_; conv => whnf)
    | (refine Br.mk (fun hb => ?_) (fun hb => ?_) <;> conv => whnf)
    | (refine And.intro ?_ ?_; (focus (first | decide | omega | (simp at *; omega) | (simp_all; done))); conv => whnf)
  refine .inl ⟨Nat × List (List DC), fun z => sq.length - z.1, fun z => z.1 ≤ sq.length ∧ z.2.length = ((sq.take z.1).filter fun s => !(s.1 == 0 || s.2.1 == 0) && cornN s.1 s.2.1 sq == 4).length,
    fun z => ⟨[(1, .one (.c (.ptr 0 0 0))), (3, .one (.c (.sl 1 0 1 0 z.2.length none))), (11, .one (.c (.d (.list 3 (sq.map r3))))), (12, .one (.c (vI (sq.map r3).length))), (13, .one (.c (vI z.1)))],
    [(0, .box [.d (dI w), .d (dI h), .d (.list 3 (sq.map r3))]), (0, .arr 1 z.2)], _⟩, (0, []), ⟨Nat.zero_le _, by simp⟩, weak_capof rfl ?_ rfl (Nat.zero_le _), fun z hz => ?_⟩
  · (repeat' first | exact rfl | exact trivial | apply And.intro | (simp [getE]; done))
  obtain ⟨i, xs⟩ := z
  replace hz : i ≤ sq.length ∧ xs.length = ((sq.take i).filter fun s => !(s.1 == 0 || s.2.1 == 0) && cornN s.1 s.2.1 sq == 4).length := hz
  obtain ⟨hi, hxs⟩ := hz
  dsimp only
  conv => whnf
  refine Br.mk (fun hb => ?_) (fun hb => ?_) <;> conv => whnf
  · have hlt : i < sq.length := by simp at hb; omega
    obtain ⟨⟨x, y, s⟩, hc⟩ : ∃ q, sq[i]? = some q := ⟨_, List.getElem?_eq_getElem hlt⟩
    have hsm := hs _ (List.mem_of_getElem? hc)
    have hg : (sq.map r3)[((i : Int)).toNat]? = some [dI x, dI y, dI s] := by rw [Int.toNat_natCast, List.getElem?_map, hc]; rfl
    have ht1 : sq.take (i + 1) = sq.take i ++ [(x, y, s)] := take_next hc
    clear hb
    have hwi : IntKind.i64.wrap ((i : Int) + 1) = ((i + 1 : Nat) : Int) := by rw [wrap_i64 _ (by omega) (by omega)]; omega
    have hno : (!(x == 0 || y == 0)) = false → xs.length = ((sq.take (i + 1)).filter fun s => !(s.1 == 0 || s.2.1 == 0) && cornN s.1 s.2.1 sq == 4).length := fun g => by
      rw [ht1, List.filter_append, List.length_append, List.filter_cons, ← hxs]
      dsimp only
      rw [g]; simp
    repeat' first
      | (refine El.get hg ?_; conv => whnf)
      | exact True.intro
      | (refine draw_mkF ?_ ?_ ?_; (focus (decide +kernel)); (focus (kernel_rfl)); conv => whnf)
      | (refine Both.mk ?_ ?_ <;> conv => whnf)
      | (refine OwnQ.own ?_; conv => whnf)
      | (refine NilQ.mk (fun hnil => ?_) ?_ <;> conv => whnf)
      | (refine draw_mk (by kernel_rfl) ?_; conv => whnf)
      | (refine Br.mk (fun hb => ?_) (fun hb => ?_) <;> conv => whnf)
      | (refine And.intro ?_ ?_; (focus (first | decide | omega | (simp at *; omega) | (simp_all; done))); conv => whnf)
    · refine ⟨(i + 1, xs), ⟨by omega, hno (by simp at hb; simp [hb])⟩, by omega, weak_of rfl ?_ rfl (Nat.zero_le _)⟩
      rw [hwi]
      (repeat' first | exact rfl | exact trivial | apply And.intro | (simp [getE]; done))
    · refine ⟨(i + 1, xs), ⟨by omega, hno (by simp at hb; simp [hb])⟩, by omega, weak_of rfl ?_ rfl (Nat.zero_le _)⟩
      rw [hwi]
      (repeat' first | exact rfl | exact trivial | apply And.intro | (simp [getE]; done))
    have hyes : (!(x == 0 || y == 0)) = true := by simp_all
    clear hb hno
    refine .inl ⟨Nat, fun j => sq.length - j, fun j => j ≤ sq.length, fun j => ⟨[(1, .one (.c (.ptr 0 0 0))), (3, .one (.c (.sl 1 0 1 0 xs.length none))), (5, .one (.c (.ptr 2 0 0))), (6, .one (.c (vI (cornN x y (sq.take j))))), (11, .one (.c (.d (.list 3 (sq.map r3))))), (12, .one (.c (vI (sq.map r3).length))), (13, .one (.c (vI i))),
        (26, .one (.c (.d (.list 3 (sq.map r3))))), (27, .one (.c (vI (sq.map r3).length))), (28, .one (.c (vI j)))],
      [(0, .box [.d (dI w), .d (dI h), .d (.list 3 (sq.map r3))]), (0, .arr 1 xs), (0, .box [.d (dI x), .d (dI y), .d (dI s)])], _⟩, 0, Nat.zero_le _, weak_of rfl ?_ rfl (Nat.zero_le _), fun j hj => ?_⟩
    · (repeat' first | exact rfl | exact trivial | apply And.intro | (simp [getE]; done))
    replace hj : j ≤ sq.length := hj
    dsimp only
    conv => whnf
    refine Br.mk (fun hb => ?_) (fun hb => ?_) <;> conv => whnf
    · have hlt2 : j < sq.length := by simp at hb; omega
      obtain ⟨⟨x', y', s'⟩, hc2⟩ : ∃ q, sq[j]? = some q := ⟨_, List.getElem?_eq_getElem hlt2⟩
      have hsm2 := hs _ (List.mem_of_getElem? hc2)
      have hg2 : (sq.map r3)[((j : Int)).toNat]? = some [dI x', dI y', dI s'] := by rw [Int.toNat_natCast, List.getElem?_map, hc2]; rfl
      have ht2 : sq.take (j + 1) = sq.take j ++ [(x', y', s')] := take_next hc2
      have e1 : IntKind.i64.wrap (x' + s') = x' + s' := by simp only [smallSq] at hsm2; exact wrap_i64 _ (by omega) (by omega)
      have e2 : IntKind.i64.wrap (y' + s') = y' + s' := by simp only [smallSq] at hsm2; exact wrap_i64 _ (by omega) (by omega)
      have hcj : cornN x y (sq.take j) ≤ 30 := Nat.le_trans (hcn _ _ _) (by rw [List.length_take]; omega)
      have hadd : cornN x y (sq.take (j + 1)) = cornN x y (sq.take j) + if cornB x y (x', y', s') = true then 1 else 0 := by
        rw [ht2]
        unfold cornN
        rw [List.filter_append, List.length_append, List.filter_cons]
        congr 1
        generalize cornB x y (x', y', s') = b
        cases b <;> rfl
      have hwj : IntKind.i64.wrap ((j : Int) + 1) = ((j + 1 : Nat) : Int) := by rw [wrap_i64 _ (by omega) (by omega)]; omega
      have bt := bit_ok true
      have bf := bit_ok false
      have by1 := bit_ok (IntKind.i64.wrap (y' + s') == y)
      have hw0 : IntKind.i64.wrap (cornN x y (sq.take j) : Int) = (cornN x y (sq.take j) : Nat) := wrap_i64 _ (by omega) (by omega)
      have hw1 : IntKind.i64.wrap ((cornN x y (sq.take j) : Int) + 1) = ((cornN x y (sq.take j) + 1 : Nat) : Int) := by rw [wrap_i64 _ (by omega) (by omega)]; omega
      clear hb
      repeat' first
        | (refine El.get hg2 ?_; conv => whnf)
        | exact True.intro
        | (refine draw_mkF ?_ ?_ ?_; (focus (decide +kernel)); (focus (kernel_rfl)); conv => whnf)
        | (refine Both.mk ?_ ?_ <;> conv => whnf)
        | (refine OwnQ.own ?_; conv => whnf)
        | (refine NilQ.mk (fun hnil => ?_) ?_ <;> conv => whnf)
        | (refine draw_mk (by kernel_rfl) ?_; conv => whnf)
        | (refine Br.mk (fun hb => ?_) (fun hb => ?_) <;> conv => whnf)
        | (refine call_sn ?_ (bt) ?_; (focus ((repeat' first | exact snapRow | exact snap_row (by simp; done) | exact rfl | exact trivial | apply And.intro | omega | (simp; done)); done)); conv => whnf)
        | (refine callP_sn ?_ (bt) ?_; (focus ((repeat' first | exact snapRow | exact snap_row (by simp; done) | exact rfl | exact trivial | apply And.intro | omega | (simp; done)); done)); conv => whnf)
        | (refine call_sn ?_ (bf) ?_; (focus ((repeat' first | exact snapRow | exact snap_row (by simp; done) | exact rfl | exact trivial | apply And.intro | omega | (simp; done)); done)); conv => whnf)
        | (refine callP_sn ?_ (bf) ?_; (focus ((repeat' first | exact snapRow | exact snap_row (by simp; done) | exact rfl | exact trivial | apply And.intro | omega | (simp; done)); done)); conv => whnf)
        | (refine call_sn ?_ (by1) ?_; (focus ((repeat' first | exact snapRow | exact snap_row (by simp; done) | exact rfl | exact trivial | apply And.intro | omega | (simp; done)); done)); conv => whnf)
        | (refine callP_sn ?_ (by1) ?_; (focus ((repeat' first | exact snapRow | exact snap_row (by simp; done) | exact rfl | exact trivial | apply And.intro | omega | (simp; done)); done)); conv => whnf)
        | (refine And.intro ?_ ?_; (focus (first | decide | omega | (simp at *; omega) | (simp_all; done))); conv => whnf)
      all_goals
        refine ⟨j + 1, (by omega : j + 1 ≤ sq.length), (by omega : sq.length - (j + 1) < sq.length - j), weak_of rfl ?_ rfl (Nat.zero_le _)⟩
        rw [hwj, hadd]
        simp only [e1, e2, beq_iff_eq, beq_eq_false_iff_ne, decide_eq_true_eq, Bool.false_eq_true, if_false, if_true, reduceIte] at *
        first
          | (have hcb : cornB x y (x', y', s') = true := by (simp only [cornB, Bool.and_eq_true, Bool.or_eq_true, beq_iff_eq]; omega)
             rw [hcb]
             simp [envOK, getE, putE, hw1]; done)
          | (have hcb : cornB x y (x', y', s') = false := by (rw [Bool.eq_false_iff]; simp only [cornB, ne_eq, Bool.and_eq_true, Bool.or_eq_true, beq_iff_eq]; omega)
             rw [hcb]
             simp [envOK, getE, putE, hw0]; done)
          | (by_cases hy : y' + s' = y
             · have hcb : cornB x y (x', y', s') = true := by (simp only [cornB, Bool.and_eq_true, Bool.or_eq_true, beq_iff_eq]; omega)
               rw [hcb]
               simp [envOK, getE, putE, hw1, hy]
             · have hcb : cornB x y (x', y', s') = false := by (rw [Bool.eq_false_iff]; simp only [cornB, ne_eq, Bool.and_eq_true, Bool.or_eq_true, beq_iff_eq]; omega)
               rw [hcb]
               simp [envOK, getE, putE, hw0, hy])
    · have hje : j = sq.length := by simp at hb; omega
      subst hje
      rw [List.take_length]
      have hxl : xs.length ≤ 30 := by rw [hxs]; exact Nat.le_trans (List.length_filter_le _ _) (by rw [List.length_take]; omega)
      repeat' first
        | exact True.intro
        | (refine draw_mkF ?_ ?_ ?_; (focus (decide +kernel)); (focus (kernel_rfl)); conv => whnf)
        | (refine Both.mk ?_ ?_ <;> conv => whnf)
        | (refine OwnQ.frz ?_; conv => whnf)
        | (refine NilQ.mk (fun hnil => ?_) ?_ <;> conv => whnf)
        | (refine draw_mk (by kernel_rfl) ?_; conv => whnf)
        | (refine Br.mk (fun hb => ?_) (fun hb => ?_) <;> conv => whnf)
        | (refine And.intro (show freezePsOK _ _ from ?_) ?_; (focus ((conv => whnf); (repeat' first | exact True.intro | (apply And.intro <;> (conv => whnf)) | exact Nat.le_of_ble_eq_true rfl | (show (_ : Nat) ≤ _; simp; done) | (show (_ : Nat) ≤ _; simp; omega)))); conv => whnf)
        | (refine And.intro ?_ ?_; (focus (first | decide | omega | (simp [contentOK, objRd, objAt, peel, List.length_set, List.length_replicate]; done) | (simp [contentOK, objRd, objAt, peel, List.length_set, List.length_replicate]; omega) | (simp [contentOK, objRd, objAt, peel, List.length_set, List.length_replicate] at *; omega))); conv => whnf)
      · refine ⟨(i + 1, xs ++ [[.list 1 [[dI x], [dI y]]]]), ⟨by omega, ?_⟩, by omega, weak_capver 1 1 0 ?_ ?_ rfl rfl (Nat.zero_le _) (Nat.zero_le _)⟩
        · rw [ht1, List.filter_append, List.length_append, List.length_append, ← hxs, List.filter_cons]
          dsimp only
          simp at hb
          rw [hyes, show cornN x y sq = 4 by omega]
          rfl
        · show _ = [(0, OB.box [.d (dI w), .d (dI h), .d (.list 3 (sq.map r3))]), (1, OB.arr 1 _)]
          rw [List.drop_zero, List.take_length]
          rfl
        · rw [hwi, List.length_append]
          (repeat' first | exact rfl | exact trivial | apply And.intro | (simp [getE]; done))
      · refine ⟨(i + 1, xs), ⟨by omega, ?_⟩, by omega, weak_of rfl ?_ rfl (Nat.zero_le _)⟩
        · rw [ht1, List.filter_append, List.length_append, ← hxs, List.filter_cons]
          dsimp only
          simp at hb
          have : (cornN x y sq == 4) = false := by simp; omega
          rw [this, Bool.and_false]
          rfl
        · rw [hwi]
          (repeat' first | exact rfl | exact trivial | apply And.intro | (simp [getE]; done))
  · have hie : i = sq.length := by simp at hb; omega
    subst hie
    rw [List.take_length] at hxs
    exact ⟨by rw [hxs], _, _, _, hxs, rfl⟩

theorem crosses_d {w h : Nat} {sq : List (Int × Int × Int)} (ht : Tiled w h sq) (hw : w ≤ 500) (hh : h ≤ 500) (hn : sq.length ≤ 30) :
    CallX G.P 106 [.agg [.d (dI w), .d (dI h), .d (.list 3 (sq.map r3))]] [] (fun sv objs' => (∃ xs : List (List DC), xs.length = crossN sq ∧ sv = .one (.c (.d (.list 1 xs)))) ∧ objs' = []) := by
  have h1 := (crosses_x ht hw hh hn).freeze (K' := fun sv _ => ∃ xs : List (List DC), xs.length = crossN sq ∧ sv = .one (.c (.d (.list 1 xs)))) ?_
  · exact callX_tail h1 fun sv objs1 ⟨xs, e1, e⟩ => ⟨[], objs1, rfl, Nat.le_refl _, by rw [e]; rfl, ⟨xs, e1, e⟩, rfl⟩
  · rintro sv objs1 ⟨rfl, b, xs, gs, hl, rfl⟩
    refine ⟨_, .c (.list 1 xs), (0, .box b) :: (0, .fro true (.arr 1 xs)) :: gs, rfl, ?_, ?_, xs, hl, rfl⟩
    · show 0 + crossN sq ≤ xs.length
      omega
    · show some (DV.c (.list 1 ((xs.drop 0).take (crossN sq))), (0, OB.box b) :: (0, OB.fro true (.arr 1 xs)) :: gs) = _
      rw [List.drop_zero, List.take_of_length_le (by omega)]

end Go.Proofs.Ytmfdkjjhdjkgpaa

namespace Go.Proofs.Ytmfdkjjhdjkgpaa
open Go Go.RowKit
set_option maxRecDepth 10000
set_option maxHeartbeats 1000000
set_option linter.unusedSimpArgs false

/-- A row of lines. -/
def gln (l : L3) : List GC := [.row 1 [[dI l.1], [dI l.2.1], [dI l.2.2]]]

def gLn : List L3 → OB
  | [] => .arr 1 []
  | l :: L => .grid 1 ((l :: L).map gln)

/-- A row of truths. -/
def bRow (w : Nat) (p : Nat → Bool) : List (List DC) := (List.range w).map fun x => [.v (.bool (p x))]

theorem bRow_len (w : Nat) (p : Nat → Bool) : (bRow w p).length = w := by simp [bRow]

theorem bRow_get {w x : Nat} {p : Nat → Bool} (h : x < w) : (bRow w p)[x]? = some [.v (.bool (p x))] := by simp [bRow, h]

theorem bRow_set {w x : Nat} {p q : Nat → Bool} (h : ∀ z, z < w → q z = (p z || z == x)) : (bRow w p).set x [.v (.bool true)] = bRow w q := by
  refine List.ext_getElem? fun z => ?_
  rw [List.getElem?_set, bRow_len]
  by_cases e : x = z
  · subst e
    rw [if_pos rfl]
    by_cases hx : x < w
    · rw [if_pos hx, bRow_get hx, h x hx]; simp
    · rw [if_neg hx, List.getElem?_eq_none (by rw [bRow_len]; omega)]
  · rw [if_neg e]
    by_cases hz : z < w
    · rw [bRow_get hz, bRow_get hz, h z hz]
      have : (z == x) = false := by simp; omega
      rw [this, Bool.or_false]
    · rw [List.getElem?_eq_none (by rw [bRow_len]; omega), List.getElem?_eq_none (by rw [bRow_len]; omega)]

theorem bRow_congr {w : Nat} {p q : Nat → Bool} (h : ∀ z, z < w → p z = q z) : bRow w p = bRow w q := by
  refine List.map_congr_left fun z hz => ?_
  rw [h z (List.mem_range.1 hz)]

theorem bRow_el {w x : Nat} {p : Nat → Bool} {el : List DC} (h : (bRow w p)[x]? = some el) : el = [.v (.bool (p x))] := by
  have := (List.getElem?_eq_some_iff.1 h).1
  rw [bRow_len] at this
  rw [bRow_get this] at h
  exact (Option.some.inj h).symm

theorem bRow_zero (w : Nat) (p : Nat → Bool) (X : Nat) : bRow w p = bRow w fun z => p z || (decide (X ≤ z) && decide (z < X + 0)) :=
  bRow_congr fun z _ => by
    have : (decide (X ≤ z) && decide (z < X + 0)) = false := by simp
    rw [this, Bool.or_false]

theorem bRow_false (w : Nat) : List.replicate w [DC.v (.bool false)] = bRow w fun _ => false := by
  refine List.ext_getElem? fun z => ?_
  rw [List.getElem?_replicate]
  by_cases h : z < w
  · rw [if_pos h, bRow_get h]
  · rw [if_neg h, List.getElem?_eq_none (by rw [bRow_len]; omega)]

theorem lnRow_len (p : Nat → Bool) (y : Nat) (L : List L3) : ∀ x, (lnRow p y L x).length ≤ L.length + x
  | 0 => Nat.le_refl _
  | x + 1 => by
    have := lnRow_len p y L x
    unfold lnRow
    split
    · split
      · simp [setLast]; omega
      · simp; omega
    · omega

theorem lnAll_len (p : Nat → Nat → Bool) (w : Nat) : ∀ n, (lnAll p w n).length ≤ n * w
  | 0 => by simp [lnAll]
  | n + 1 => by
    have h1 := lnAll_len p w n
    have h2 := lnRow_len (fun x => p x n) n (lnAll p w n) w
    rw [Nat.succ_mul]
    unfold lnAll
    omega

theorem edgeB_snoc (l : List (Int × Int × Int)) (s : Int × Int × Int) (x y : Nat) : edgeB (l ++ [s]) x y = (edgeB l x y || ((s.2.1 == (y : Int) || s.2.1 + s.2.2 == (y : Int)) && inI s.1 s.2.2 x)) := by
  simp [edgeB, List.any_append]

theorem linesAcross_x {w h : Nat} {sq : List (Int × Int × Int)} (ht : Tiled w h sq) (hw : w ≤ 500) (hh : h ≤ 500) (hn : sq.length ≤ 30) :
    CallX G.P 140 [.agg [.d (dI w), .d (dI h), .d (.list 3 (sq.map r3))]] [] (fun sv objs' => sv = .one (.c (.sl 1 0 1 0 (lnAll (edgeB sq) w (h + 1)).length none)) ∧ ∃ b gs, objs' = (0, .box b) :: (0, gLn (lnAll (edgeB sq) w (h + 1))) :: gs) := by
  have hs := ht.small hw hh
  refine call_body (G := G) Try.func140 rfl (by decide) (Nat.le_of_ble_eq_true rfl) ?_
  conv => whnf
  repeat' first
    | exact True.intro
    | (refine draw_mkF ?_ ?_ ?_; (focus (decide +kernel)); (focus (kernel_rfl)); conv => whnf)
    | (refine Both.mk ?_ ?_ <;> conv => whnf)
    | (refine OwnQ.own ?_; conv => whnf)
    | (refine NilQ.mk (fun hnil => ?_) ?_ <;> conv => whnf)
    | (refine draw_mk (by kernel_rfl) ?_; conv => whnf)
    | (refine Br.mk (fun hb => ?_) (fun hb => ?_) <;> conv => whnf)
    | (refine And.intro ?_ ?_; (focus (first | decide | omega | (simp at *; omega) | (simp_all; done))); conv => whnf)
  have hwh : IntKind.i64.wrap ((h : Int) + 1) = ((h + 1 : Nat) : Int) := by rw [wrap_i64 _ (by omega) (by omega)]; omega
  refine .inl ⟨Nat, fun y => h + 1 - y, fun y => y ≤ h + 1, fun y => ⟨[(1, .one (.c (.ptr 0 0 0))), (3, .one (.c (.sl 1 0 1 0 (lnAll (edgeB sq) w y).length none))), (14, .one (.c (vI ((h + 1 : Nat) : Int)))), (15, .one (.c (vI y)))],
    [(0, .box [.d (dI w), .d (dI h), .d (.list 3 (sq.map r3))]), (0, gLn (lnAll (edgeB sq) w y))], _⟩, 0, Nat.zero_le _, weak_capof rfl ?_ rfl (Nat.zero_le _), fun y hy => ?_⟩
  · rw [hwh]
    (repeat' first | exact rfl | exact trivial | apply And.intro | (simp [getE]; done))
  replace hy : y ≤ h + 1 := hy
  dsimp only
  have hend : y = h + 1 → lnAll (edgeB sq) w y = lnAll (edgeB sq) w (h + 1) := fun e => by rw [e]
  have hnext : lnAll (edgeB sq) w (y + 1) = lnRow (fun x => edgeB sq x y) y (lnAll (edgeB sq) w y) w := rfl
  have hlen : (lnAll (edgeB sq) w y).length ≤ 250500 := Nat.le_trans (lnAll_len _ _ _) (Nat.le_trans (Nat.mul_le_mul hy hw) (Nat.mul_le_mul (show h + 1 ≤ 501 by omega) (Nat.le_refl 500)))
  generalize lnAll (edgeB sq) w y = L at hend hnext hlen
  have hwy : IntKind.i64.wrap ((y : Int) + 1) = ((y + 1 : Nat) : Int) := by rw [wrap_i64 _ (by omega) (by omega)]; omega
  rcases hL : L with _ | ⟨l0, L0⟩
  all_goals
    conv => whnf
    refine Br.mk (fun hb => ?_) (fun hb => ?_) <;> conv => whnf
    rotate_left
    · have hye : y = h + 1 := by simp at hb; omega
      rw [← hend hye, hL]
      exact ⟨rfl, _, [], rfl⟩
    have hyl : y ≤ h := by simp at hb; omega
    clear hb
    repeat' first
      | exact True.intro
      | (refine draw_mkF ?_ ?_ ?_; (focus (decide +kernel)); (focus (kernel_rfl)); conv => whnf)
      | (refine Both.mk ?_ ?_ <;> conv => whnf)
      | (refine OwnQ.own ?_; conv => whnf)
      | (refine NilQ.mk (fun hnil => ?_) ?_ <;> conv => whnf)
      | (refine draw_mk (by kernel_rfl) ?_; conv => whnf)
      | (refine Br.mk (fun hb => ?_) (fun hb => ?_) <;> conv => whnf)
      | (refine And.intro ?_ ?_; (focus (first | decide | omega | (simp at *; omega) | (simp_all; done))); conv => whnf)
    refine .inl ⟨Nat, fun j => sq.length - j, fun j => j ≤ sq.length, fun j => ⟨[(1, .one (.c (.ptr 0 0 0))), (3, .one (.c (.sl 1 0 1 0 L.length none))), (4, .one (.c (vI y))), (5, .one (.c (.sl 2 0 1 0 w none))), (14, .one (.c (vI ((h + 1 : Nat) : Int)))), (15, .one (.c (vI y))),
        (22, .one (.c (.d (.list 3 (sq.map r3))))), (23, .one (.c (vI (sq.map r3).length))), (24, .one (.c (vI j)))],
      [(0, .box [.d (dI w), .d (dI h), .d (.list 3 (sq.map r3))]), (0, gLn L), (0, .arr 1 (bRow w fun x => edgeB (sq.take j) x y))], _⟩, 0, Nat.zero_le _, weak_capof ?_ ?_ ?_ (Nat.zero_le _), fun j hj => ?_⟩
    · rw [hL, Int.toNat_natCast, bRow_false]; rfl
    · (try rw [hL]); (repeat' first | exact rfl | exact trivial | apply And.intro | (simp [getE]; done))
    · (try rw [hL]); rfl
    replace hj : j ≤ sq.length := hj
    dsimp only
    rw [hL]
    conv => whnf
    refine Br.mk (fun hb => ?_) (fun hb => ?_) <;> conv => whnf
    · have hlt : j < sq.length := by simp at hb; omega
      obtain ⟨⟨x', y', s'⟩, hc⟩ : ∃ q, sq[j]? = some q := ⟨_, List.getElem?_eq_getElem hlt⟩
      have hpl := ht.place _ (List.mem_of_getElem? hc)
      have hsm := hs _ (List.mem_of_getElem? hc)
      have hg : (sq.map r3)[((j : Int)).toNat]? = some [dI x', dI y', dI s'] := by rw [Int.toNat_natCast, List.getElem?_map, hc]; rfl
      have ht1 : sq.take (j + 1) = sq.take j ++ [(x', y', s')] := take_next hc
      have e1 : IntKind.i64.wrap (x' + s') = x' + s' := by simp only [smallSq] at hsm; exact wrap_i64 _ (by omega) (by omega)
      have e2 : IntKind.i64.wrap (y' + s') = y' + s' := by simp only [smallSq] at hsm; exact wrap_i64 _ (by omega) (by omega)
      have hwj : IntKind.i64.wrap ((j : Int) + 1) = ((j + 1 : Nat) : Int) := by rw [wrap_i64 _ (by omega) (by omega)]; omega
      clear hb
      repeat' first
        | (refine El.get hg ?_; conv => whnf)
        | exact True.intro
        | (refine draw_mkF ?_ ?_ ?_; (focus (decide +kernel)); (focus (kernel_rfl)); conv => whnf)
        | (refine Both.mk ?_ ?_ <;> conv => whnf)
        | (refine OwnQ.own ?_; conv => whnf)
        | (refine NilQ.mk (fun hnil => ?_) ?_ <;> conv => whnf)
        | (refine draw_mk (by kernel_rfl) ?_; conv => whnf)
        | (refine Br.mk (fun hb => ?_) (fun hb => ?_) <;> conv => whnf)
        | (refine And.intro ?_ ?_; (focus (first | decide | omega | (simp at *; omega) | (simp_all; done))); conv => whnf)
      · have hpy : ((y' == (y : Int)) || (y' + s' == (y : Int))) = true := by (first | (simp [e2] at hb ⊢; simp_all; done) | (simp [e2] at hb ⊢; done) | (simp_all; done))
        obtain ⟨X, rfl⟩ : ∃ X : Nat, x' = X := ⟨x'.toNat, by simp only at hpl; omega⟩
        obtain ⟨D, rfl⟩ : ∃ D : Nat, s' = D := ⟨s'.toNat, by simp only at hpl; omega⟩
        clear hb
        refine .inl ⟨Nat, fun t => D - t, fun t => t ≤ D, fun t => ⟨[(1, .one (.c (.ptr 0 0 0))), (3, .one (.c (.sl 1 0 1 0 L.length none))), (4, .one (.c (vI y))), (5, .one (.c (.sl 2 0 1 0 w none))), (7, .one (.c (.ptr 3 0 0))), (8, .one (.c (vI ((X + t : Nat) : Int)))), (14, .one (.c (vI ((h + 1 : Nat) : Int)))), (15, .one (.c (vI y))),
            (22, .one (.c (.d (.list 3 (sq.map r3))))), (23, .one (.c (vI (sq.map r3).length))), (24, .one (.c (vI j)))],
          [(0, .box [.d (dI w), .d (dI h), .d (.list 3 (sq.map r3))]), (0, gLn L), (0, .arr 1 (bRow w fun z => edgeB (sq.take j) z y || (decide (X ≤ z) && decide (z < X + t)))), (0, .box [.d (dI X), .d (dI y'), .d (dI D)])], _⟩, 0, Nat.zero_le _, weak_of ?_ ?_ ?_ (Nat.zero_le _), fun t htt => ?_⟩
        · (try rw [hL]); rw [← bRow_zero]
          rfl
        · (try rw [hL]); (repeat' first | exact rfl | exact trivial | apply And.intro | (simp [getE]; done))
        · (try rw [hL]); rfl
        replace htt : t ≤ D := htt
        dsimp only
        rw [hL]
        conv => whnf
        have hwt : IntKind.i64.wrap (((X + t : Nat) : Int) + 1) = ((X + (t + 1) : Nat) : Int) := by simp only [smallSq] at hsm; rw [wrap_i64 _ (by omega) (by omega)]; omega
        have hXw : X + D ≤ w := by simp only at hpl; omega
        repeat' first
          | exact True.intro
          | (refine draw_mkF ?_ ?_ ?_; (focus (decide +kernel)); (focus (kernel_rfl)); conv => whnf)
          | (refine Both.mk ?_ ?_ <;> conv => whnf)
          | (refine OwnQ.own ?_; conv => whnf)
          | (refine NilQ.mk (fun hnil => ?_) ?_ <;> conv => whnf)
          | (refine draw_mk (by kernel_rfl) ?_; conv => whnf)
          | (refine Br.mk (fun hb => ?_) (fun hb => ?_) <;> conv => whnf)
          | (refine And.intro ?_ ?_; (focus (first | decide | omega | (simp [contentOK, objRd, objAt, peel, bRow_len]; done) | (simp [contentOK, objRd, objAt, peel, bRow_len]; omega) | (simp [contentOK, objRd, objAt, peel, bRow_len] at *; omega))); conv => whnf)
        · have htl : t < D := by rw [e1] at hb; simp at hb; omega
          refine ⟨t + 1, (by omega : t + 1 ≤ D), (by omega : D - (t + 1) < D - t), weak_of ?_ ?_ ?_ (Nat.zero_le _)⟩
          · (try rw [hL])
            show [_, _, (0, OB.arr 1 _), _] = [_, _, (0, OB.arr 1 _), _]
            rw [Nat.zero_add, Int.toNat_natCast, bRow_set (q := fun z => edgeB (sq.take j) z y || (decide (X ≤ z) && decide (z < X + (t + 1)))) (fun z _ => by
              rw [Bool.or_assoc]
              congr 1
              rw [Bool.eq_iff_iff]
              simp only [Bool.and_eq_true, Bool.or_eq_true, decide_eq_true_eq, beq_iff_eq]
              omega)]
            rfl
          · (try rw [hL]); rw [hwt]; (repeat' first | exact rfl | exact trivial | apply And.intro | (simp [getE]; done))
          · (try rw [hL]); rfl
        · have hte : t = D := by rw [e1] at hb; simp at hb; omega
          subst hte
          refine ⟨j + 1, (by omega : j + 1 ≤ sq.length), (by omega : sq.length - (j + 1) < sq.length - j), weak_of ?_ ?_ ?_ (Nat.zero_le _)⟩
          · (try rw [hL]); rw [← bRow_congr (p := fun z => edgeB (sq.take j) z y || (decide (X ≤ z) && decide (z < X + t))) (fun z _ => by
              rw [ht1, edgeB_snoc]
              congr 1
              dsimp only
              rw [hpy, Bool.true_and]
              unfold inI
              rw [Bool.eq_iff_iff]
              simp only [Bool.and_eq_true, decide_eq_true_eq]
              omega)]
            rfl
          · (try rw [hL]); rw [hwj]; (repeat' first | exact rfl | exact trivial | apply And.intro | (simp [getE]; done))
          · (try rw [hL]); rfl
      · have hpy : ((y' == (y : Int)) || (y' + s' == (y : Int))) = true := by (first | (simp [e2] at hb ⊢; simp_all; done) | (simp [e2] at hb ⊢; done) | (simp_all; done))
        obtain ⟨X, rfl⟩ : ∃ X : Nat, x' = X := ⟨x'.toNat, by simp only at hpl; omega⟩
        obtain ⟨D, rfl⟩ : ∃ D : Nat, s' = D := ⟨s'.toNat, by simp only at hpl; omega⟩
        clear hb
        refine .inl ⟨Nat, fun t => D - t, fun t => t ≤ D, fun t => ⟨[(1, .one (.c (.ptr 0 0 0))), (3, .one (.c (.sl 1 0 1 0 L.length none))), (4, .one (.c (vI y))), (5, .one (.c (.sl 2 0 1 0 w none))), (7, .one (.c (.ptr 3 0 0))), (8, .one (.c (vI ((X + t : Nat) : Int)))), (14, .one (.c (vI ((h + 1 : Nat) : Int)))), (15, .one (.c (vI y))),
            (22, .one (.c (.d (.list 3 (sq.map r3))))), (23, .one (.c (vI (sq.map r3).length))), (24, .one (.c (vI j)))],
          [(0, .box [.d (dI w), .d (dI h), .d (.list 3 (sq.map r3))]), (0, gLn L), (0, .arr 1 (bRow w fun z => edgeB (sq.take j) z y || (decide (X ≤ z) && decide (z < X + t)))), (0, .box [.d (dI X), .d (dI y'), .d (dI D)])], _⟩, 0, Nat.zero_le _, weak_of ?_ ?_ ?_ (Nat.zero_le _), fun t htt => ?_⟩
        · (try rw [hL]); rw [← bRow_zero]
          rfl
        · (try rw [hL]); (repeat' first | exact rfl | exact trivial | apply And.intro | (simp [getE]; done))
        · (try rw [hL]); rfl
        replace htt : t ≤ D := htt
        dsimp only
        rw [hL]
        conv => whnf
        have hwt : IntKind.i64.wrap (((X + t : Nat) : Int) + 1) = ((X + (t + 1) : Nat) : Int) := by simp only [smallSq] at hsm; rw [wrap_i64 _ (by omega) (by omega)]; omega
        have hXw : X + D ≤ w := by simp only at hpl; omega
        repeat' first
          | exact True.intro
          | (refine draw_mkF ?_ ?_ ?_; (focus (decide +kernel)); (focus (kernel_rfl)); conv => whnf)
          | (refine Both.mk ?_ ?_ <;> conv => whnf)
          | (refine OwnQ.own ?_; conv => whnf)
          | (refine NilQ.mk (fun hnil => ?_) ?_ <;> conv => whnf)
          | (refine draw_mk (by kernel_rfl) ?_; conv => whnf)
          | (refine Br.mk (fun hb => ?_) (fun hb => ?_) <;> conv => whnf)
          | (refine And.intro ?_ ?_; (focus (first | decide | omega | (simp [contentOK, objRd, objAt, peel, bRow_len]; done) | (simp [contentOK, objRd, objAt, peel, bRow_len]; omega) | (simp [contentOK, objRd, objAt, peel, bRow_len] at *; omega))); conv => whnf)
        · have htl : t < D := by rw [e1] at hb; simp at hb; omega
          refine ⟨t + 1, (by omega : t + 1 ≤ D), (by omega : D - (t + 1) < D - t), weak_of ?_ ?_ ?_ (Nat.zero_le _)⟩
          · (try rw [hL])
            show [_, _, (0, OB.arr 1 _), _] = [_, _, (0, OB.arr 1 _), _]
            rw [Nat.zero_add, Int.toNat_natCast, bRow_set (q := fun z => edgeB (sq.take j) z y || (decide (X ≤ z) && decide (z < X + (t + 1)))) (fun z _ => by
              rw [Bool.or_assoc]
              congr 1
              rw [Bool.eq_iff_iff]
              simp only [Bool.and_eq_true, Bool.or_eq_true, decide_eq_true_eq, beq_iff_eq]
              omega)]
            rfl
          · (try rw [hL]); rw [hwt]; (repeat' first | exact rfl | exact trivial | apply And.intro | (simp [getE]; done))
          · (try rw [hL]); rfl
        · have hte : t = D := by rw [e1] at hb; simp at hb; omega
          subst hte
          refine ⟨j + 1, (by omega : j + 1 ≤ sq.length), (by omega : sq.length - (j + 1) < sq.length - j), weak_of ?_ ?_ ?_ (Nat.zero_le _)⟩
          · (try rw [hL]); rw [← bRow_congr (p := fun z => edgeB (sq.take j) z y || (decide (X ≤ z) && decide (z < X + t))) (fun z _ => by
              rw [ht1, edgeB_snoc]
              congr 1
              dsimp only
              rw [hpy, Bool.true_and]
              unfold inI
              rw [Bool.eq_iff_iff]
              simp only [Bool.and_eq_true, decide_eq_true_eq]
              omega)]
            rfl
          · (try rw [hL]); rw [hwj]; (repeat' first | exact rfl | exact trivial | apply And.intro | (simp [getE]; done))
          · (try rw [hL]); rfl
      · have hpy : ((y' == (y : Int)) || (y' + s' == (y : Int))) = false := by (first | (simp [e2] at hb ⊢; simp_all; done) | (simp [e2] at hb ⊢; done) | (simp_all; done))
        refine ⟨j + 1, (by omega : j + 1 ≤ sq.length), (by omega : sq.length - (j + 1) < sq.length - j), weak_of ?_ ?_ ?_ (Nat.zero_le _)⟩
        · (try rw [hL]); rw [← bRow_congr (p := fun z => edgeB (sq.take j) z y) (fun z _ => by
            rw [ht1, edgeB_snoc]
            dsimp only
            rw [hpy, Bool.false_and, Bool.or_false])]
          rfl
        · (try rw [hL]); rw [hwj]; (repeat' first | exact rfl | exact trivial | apply And.intro | (simp [getE]; done))
        · (try rw [hL]); rfl
    · have hje : j = sq.length := by simp at hb; omega
      subst hje
      rw [List.take_length]
      clear hb
      repeat' first
        | exact True.intro
        | (refine draw_mkF ?_ ?_ ?_; (focus (decide +kernel)); (focus (kernel_rfl)); conv => whnf)
        | (refine Both.mk ?_ ?_ <;> conv => whnf)
        | (refine OwnQ.own ?_; conv => whnf)
        | (refine NilQ.mk (fun hnil => ?_) ?_ <;> conv => whnf)
        | (refine draw_mk (by kernel_rfl) ?_; conv => whnf)
        | (refine Br.mk (fun hb => ?_) (fun hb => ?_) <;> conv => whnf)
        | (refine And.intro ?_ ?_; (focus (first | decide | omega | (simp at *; omega) | (simp_all; done))); conv => whnf)
      refine .inl ⟨Nat, fun x => w - x, fun x => x ≤ w, fun x => ⟨[(1, .one (.c (.ptr 0 0 0))), (3, .one (.c (.sl 1 0 1 0 (lnRow (fun x => edgeB sq x y) y L x).length none))), (4, .one (.c (vI y))), (5, .one (.c (.sl 2 0 1 0 w none))), (14, .one (.c (vI ((h + 1 : Nat) : Int)))), (15, .one (.c (vI y))),
          (56, .one (.c (.sl 2 0 1 0 w none))), (57, .one (.c (vI w))), (58, .one (.c (vI x)))],
        [(0, .box [.d (dI w), .d (dI h), .d (.list 3 (sq.map r3))]), (0, gLn (lnRow (fun x => edgeB sq x y) y L x)), (0, .arr 1 (bRow w fun x => edgeB sq x y))], _⟩, 0, Nat.zero_le _, weak_of ?_ ?_ ?_ (Nat.zero_le _), fun x hx => ?_⟩
      · rw [hL]; rfl
      · rw [hL]; (repeat' first | exact rfl | exact trivial | apply And.intro | (simp [getE]; done))
      · rw [hL]; rfl
      replace hx : x ≤ w := hx
      dsimp only
      have hxe : x = w → lnRow (fun x => edgeB sq x y) y L x = lnAll (edgeB sq) w (y + 1) := fun e => by rw [hnext, e]
      have hstep : lnRow (fun x => edgeB sq x y) y L (x + 1) = (if edgeB sq x y = true then (if 0 < x ∧ edgeB sq (x - 1) y = true then setLast (lnRow (fun x => edgeB sq x y) y L x) ((x + 1 : Nat) : Int) else lnRow (fun x => edgeB sq x y) y L x ++ [((y : Int), (x : Int), ((x + 1 : Nat) : Int))]) else lnRow (fun x => edgeB sq x y) y L x) := rfl
      have hne : 0 < x → edgeB sq (x - 1) y = true → lnRow (fun x => edgeB sq x y) y L x ≠ [] := fun h0 h1 => by
        obtain ⟨R, g1, _, _, g4⟩ := lnRow_facts (fun x => edgeB sq x y) y L x
        obtain ⟨z, rfl⟩ : ∃ z, x = z + 1 := ⟨x - 1, by omega⟩
        rw [Nat.add_sub_cancel] at h1
        obtain ⟨R', rfl⟩ := g4 (by show 0 < (if edgeB sq z y = true then _ else _); rw [if_pos h1]; omega)
        rw [g1]; simp
      have hml : (lnRow (fun x => edgeB sq x y) y L x).length ≤ 251000 := by
        have := lnRow_len (fun x => edgeB sq x y) y L x
        rw [hL] at this hlen
        rw [hL]
        omega
      generalize lnRow (fun x => edgeB sq x y) y L x = M at hxe hstep hne hml
      have hwx : IntKind.i64.wrap ((x : Int) + 1) = ((x + 1 : Nat) : Int) := by rw [wrap_i64 _ (by omega) (by omega)]; omega
      have hwx1 : 0 < x → IntKind.i64.wrap ((x : Int) - 1) = ((x - 1 : Nat) : Int) := fun g => by rw [wrap_i64 _ (by omega) (by omega)]; omega
      have hwi : ∀ z : Nat, 0 + ((z : Int)).toNat = z := fun z => by omega
      rcases M with _ | ⟨m0, M0⟩
      · conv => whnf
        refine Br.mk (fun hb => ?_) (fun hb => ?_) <;> conv => whnf
        · have hxl : x < w := by simp at hb; omega
          clear hb
          repeat' first
            | exact True.intro
            | (refine draw_mkF ?_ ?_ ?_; (focus (decide +kernel)); (focus (kernel_rfl)); conv => whnf)
            | (refine Both.mk ?_ ?_ <;> conv => whnf)
            | (refine OwnQ.own ?_; conv => whnf)
            | (refine NilQ.mk (fun hnil => ?_) ?_ <;> conv => whnf)
            | (refine draw_mk (by kernel_rfl) ?_; conv => whnf)
            | (refine Br.mk (fun hb => ?_) (fun hb => ?_) <;> conv => whnf)
            | (refine El.mk (fun el hel => ?_); obtain rfl := bRow_el hel; conv => whnf)
            | (refine And.intro ?_ ?_; (focus (first | decide | omega | (simp [contentOK, objRd, objAt, peel, bRow_len]; done) | (simp [contentOK, objRd, objAt, peel, bRow_len]; omega) | (simp [contentOK, objRd, objAt, peel, bRow_len] at *; omega))); conv => whnf)
          · have hs1 : lnRow (fun x => edgeB sq x y) y L (x + 1) = [] := by rw [hstep, if_neg (by rw [hwi] at hb; simpa using hb)]
            refine ⟨x + 1, by omega, by omega, ?_⟩
            rw [hs1, hwx]
            exact weak_of rfl (by (repeat' first | exact rfl | exact trivial | apply And.intro | (simp [getE]; done))) rfl (Nat.zero_le _)
          · exfalso
            have hx0' : 0 < x := by simp only [decide_eq_true_eq, gt_iff_lt] at *; omega
            rw [hwx1 hx0', hwi] at hb
            exact hne hx0' hb rfl
          all_goals
            have hs1 : lnRow (fun x => edgeB sq x y) y L (x + 1) = [((y : Int), (x : Int), ((x + 1 : Nat) : Int))] := by
              rw [hstep, if_pos (by simp_all), if_neg (fun g => hne g.1 g.2 rfl)]
              rfl
            refine ⟨x + 1, by omega, by omega, ?_⟩
            rw [hs1, hwx]
            exact weak_capver 1 1 0 rfl (by (repeat' first | exact rfl | exact trivial | apply And.intro | (simp [getE]; done))) rfl rfl (Nat.zero_le _) (Nat.zero_le _)
        · have hxe' : x = w := by simp at hb; omega
          have hs1 := (hxe hxe').symm
          refine ⟨y + 1, by omega, by omega, ?_⟩
          rw [hs1, hwy]
          exact weak_of rfl (by (repeat' first | exact rfl | exact trivial | apply And.intro | (simp [getE]; done))) rfl (Nat.zero_le _)
      · have hm0 : M0.length ≤ 250999 := by rw [List.length_cons] at hml; omega
        obtain ⟨lst, hlst⟩ : ∃ lst, (m0 :: M0)[M0.length]? = some lst := ⟨_, List.getElem?_eq_getElem (by rw [List.length_cons]; omega)⟩
        have hwl : IntKind.i64.wrap (((m0 :: M0).length : Int) - 1) = (M0.length : Int) := by rw [List.length_cons, wrap_i64 _ (by omega) (by omega)]; omega
        have hset : ∀ e, setLast (m0 :: M0) e = (m0 :: M0).set M0.length (lst.1, lst.2.1, e) := fun e => by
          unfold setLast
          rw [List.getLast?_eq_getElem?, List.length_cons, Nat.add_sub_cancel, hlst]
          rfl
        have hgl : ((m0 :: M0).map gln)[0 + (IntKind.i64.wrap (((m0 :: M0).length : Int) - 1)).toNat]? = some (gln lst) := by rw [hwl, hwi, List.getElem?_map, hlst]; rfl
        have hrow : rowAt 1 ((m0 :: M0).map gln) ((0 + (IntKind.i64.wrap (((m0 :: M0).length : Int) - 1)).toNat) * 1 + 0) = some (1, [[dI lst.1], [dI lst.2.1], [dI lst.2.2]]) := by
          unfold rowAt
          rw [Nat.mul_one, Nat.add_zero, Nat.div_one, hgl, Nat.mod_one]
          rfl
        have hsg : ∀ v : Int, setG 1 ((m0 :: M0).map gln) ((0 + (IntKind.i64.wrap (((m0 :: M0).length : Int) - 1)).toNat) * 1 + 0) (.row 1 [[dI lst.1], [dI lst.2.1], [dI v]]) = ((m0 :: M0).set M0.length (lst.1, lst.2.1, v)).map gln := fun v => by
          unfold setG
          rw [Nat.mul_one, Nat.add_zero, Nat.div_one, hgl, List.map_set, Nat.mod_one]
          dsimp only
          rw [hwl, hwi]
          rfl
        have hgn : ∀ M : List L3, M ≠ [] → gLn M = .grid 1 (M.map gln) := fun M hM => by
          cases M with
          | nil => exact absurd rfl hM
          | cons => rfl
        conv => whnf
        refine Br.mk (fun hb => ?_) (fun hb => ?_) <;> conv => whnf
        · have hxl : x < w := by simp at hb; omega
          clear hb
          repeat' first
            | exact True.intro
            | (refine draw_mkF ?_ ?_ ?_; (focus (decide +kernel)); (focus (kernel_rfl)); conv => whnf)
            | (refine Both.mk ?_ ?_ <;> conv => whnf)
            | (refine OwnQ.own ?_; conv => whnf)
            | (refine NilQ.mk (fun hnil => ?_) ?_ <;> conv => whnf)
            | (refine draw_mk (by kernel_rfl) ?_; conv => whnf)
            | (refine Br.mk (fun hb => ?_) (fun hb => ?_) <;> conv => whnf)
            | (refine El.mk (fun el hel => ?_); obtain rfl := bRow_el hel; conv => whnf)
            | (refine And.intro ?_ ?_; (focus (first | decide | omega | (simp [contentOK, objRd, objAt, peel, bRow_len, List.length_cons]; done) | (simp [contentOK, objRd, objAt, peel, bRow_len, List.length_cons]; omega) | (simp [contentOK, objRd, objAt, peel, bRow_len, List.length_cons] at *; omega))); conv => whnf)
          · have hs1 : lnRow (fun x => edgeB sq x y) y L (x + 1) = m0 :: M0 := by rw [hstep, if_neg (by rw [hwi] at hb; simpa using hb)]
            refine ⟨x + 1, by omega, by omega, ?_⟩
            rw [hs1, hwx]
            exact weak_of rfl (by (repeat' first | exact rfl | exact trivial | apply And.intro | (simp [getE]; done))) rfl (Nat.zero_le _)
          · have hx0' : 0 < x := by simp only [decide_eq_true_eq, gt_iff_lt] at *; omega
            rw [hwx1 hx0', hwi] at hb
            have hs1 : lnRow (fun x => edgeB sq x y) y L (x + 1) = (m0 :: M0).set M0.length (lst.1, lst.2.1, ((x + 1 : Nat) : Int)) := by
              rw [hstep, if_pos (by simp_all), if_pos ⟨hx0', hb⟩, hset]
            refine ElG.get hgl ?_
            conv => whnf
            refine ⟨by decide, by simp, ?_⟩
            conv => whnf
            refine ⟨trivial, ?_⟩
            conv => whnf
            refine RowAt.mk' hrow ?_
            conv => whnf
            refine ⟨by simp, ?_⟩
            conv => whnf
            refine El.get rfl ?_
            conv => whnf
            refine ⟨x + 1, by omega, by omega, ?_⟩
            rw [hs1, hwx, hgn _ (by simp), List.length_set, ← hsg]
            exact weak_of rfl (by (repeat' first | exact rfl | exact trivial | apply And.intro | (simp [getE]; done))) rfl (Nat.zero_le _)
          all_goals
            have hs1 : lnRow (fun x => edgeB sq x y) y L (x + 1) = (m0 :: M0) ++ [((y : Int), (x : Int), ((x + 1 : Nat) : Int))] := by
              rw [hstep, if_pos (by simp_all), if_neg (by rintro ⟨g1, g2⟩; simp_all)]
            refine ⟨x + 1, by omega, by omega, ?_⟩
            rw [hs1, hwx, hgn _ (by simp), List.map_append, List.length_append]
            exact weak_capver 1 1 0 rfl (by (repeat' first | exact rfl | exact trivial | apply And.intro | (simp [getE]; done))) rfl rfl (Nat.zero_le _) (Nat.zero_le _)
        · have hxe' : x = w := by simp at hb; omega
          have hs1 := (hxe hxe').symm
          refine ⟨y + 1, by omega, by omega, ?_⟩
          rw [hs1, hwy]
          exact weak_of rfl (by (repeat' first | exact rfl | exact trivial | apply And.intro | (simp [getE]; done))) rfl (Nat.zero_le _)

end Go.Proofs.Ytmfdkjjhdjkgpaa

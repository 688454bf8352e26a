/- Filling strips, told without any program: a state is a number of digits of 4, one a row: how many columns are full ahead. -/
import Derived.Test.YtmfdkjjhdjkgpaaQZe
namespace Go.Proofs.Ytmfdkjjhdjkgpaa

def dg (st i : Nat) : Nat := st / 4 ^ i % 4

def freeS (h st : Nat) : Option Nat := (List.range h).find? fun i => dg st i == 0

def clearB (st r side : Nat) : Bool := (List.range side).all fun k => dg st (r + k) == 0

def onesS (r side : Nat) : Nat := ((List.range side).map fun k => 4 ^ (r + k)).sum

def putS (h left st r side : Nat) : Option Nat := if r + side ≤ h ∧ side ≤ left ∧ clearB st r side = true then some (st + side * onesS r side) else none

def nx (h left st r side : Nat) : Option (Nat × Nat) := if side = 4 then (if st = 0 ∧ 4 ≤ left then some (left - 4, 0) else none) else (putS h left st r side).map fun s => (left, s)

variable {α : Type}

/-- What is told of all ways to fill what is left: one for what is filled, the sides' in order. -/
def Ev (one zero : α) (step : Nat → α → α → α) (h : Nat) : Nat → Nat → Nat → α
  | 0, _, _ => zero
  | n + 1, left, st => if left = 0 then (if st = 0 then one else zero) else match freeS h st with
    | none => Ev one zero step h n (left - 1) (st - onesS 0 h)
    | some r => (List.range h).foldl (fun acc i => match nx h left st r (i + 1) with
      | some (l, s) => step (i + 1) acc (Ev one zero step h n l s)
      | none => acc) zero

def zer (h st : Nat) : Nat := ((List.range h).filter fun i => dg st i == 0).length

/-- How many steps are left at most. -/
def mu (h left st : Nat) : Nat := (h + 1) * left + zer h st

theorem zer_le (h st : Nat) : zer h st ≤ h := by
  unfold zer
  have := List.length_filter_le (fun i => dg st i == 0) (List.range h)
  simpa using this

def putChk (h st r side : Nat) : Bool := !(decide (1 ≤ side) && decide (r + side ≤ h) && clearB st r side) || (decide (zer h (st + side * onesS r side) < zer h st) && (!decide (st < 4 ^ h) || decide (st + side * onesS r side < 4 ^ h)))

theorem put_all : ((List.range 5).all fun h => (List.range 256).all fun st => (List.range 4).all fun r => (List.range 4).all fun side => putChk h st r side) = true := by decide +kernel

theorem put_zer (h : Nat) (hh : h < 5) (st : Nat) (hst : st < 256) (r : Nat) (hr : r < 4) (side : Nat) (hs : side < 4) (h1 : 1 ≤ side) (h2 : r + side ≤ h) (h3 : clearB st r side = true) :
    zer h (st + side * onesS r side) < zer h st ∧ (st < 4 ^ h → st + side * onesS r side < 4 ^ h) := by
  have := put_all
  simp only [List.all_eq_true, List.mem_range] at this
  have := this h hh st hst r hr side hs
  simp only [putChk, h1, h2, h3, decide_true, Bool.and_self, Bool.not_true, Bool.false_or, Bool.and_eq_true, decide_eq_true_eq, Bool.or_eq_true, Bool.not_eq_true', decide_eq_false_iff_not] at this
  exact ⟨this.1, fun h => this.2.elim (fun g => (g h).elim) id⟩

theorem nx_mu {h left st r side l s : Nat} (hh : h < 5) (hst : st < 4 ^ h) (hs : 1 ≤ side) (hsh : side ≤ h) (h1 : nx h left st r side = some (l, s)) : mu h l s < mu h left st ∧ s < 4 ^ h ∧ l ≤ left := by
  have hp : 4 ^ h ≤ 256 := by
    have : (4 : Nat) ^ h ≤ 4 ^ 4 := Nat.pow_le_pow_right (by omega) (by omega)
    simpa using this
  unfold nx at h1
  split at h1
  · split at h1
    · rename_i h4 hc
      simp only [Option.some.injEq, Prod.mk.injEq] at h1
      obtain ⟨rfl, rfl⟩ := h1
      have e : h = 4 := by omega
      subst e
      have := zer_le 4 0
      refine ⟨?_, by omega, by omega⟩
      unfold mu
      omega
    · cases h1
  · rename_i h4
    unfold putS at h1
    split at h1
    · rename_i hc
      simp only [Option.map_some, Option.some.injEq, Prod.mk.injEq] at h1
      obtain ⟨rfl, rfl⟩ := h1
      obtain ⟨k1, k2⟩ := put_zer h hh st (by omega) r (by omega) side (by omega) hs hc.1 hc.2.2
      exact ⟨by unfold mu; omega, k2 hst, Nat.le_refl _⟩
    · cases h1

theorem shift_lt : ∀ h < 5, ∀ st < 256, st < 4 ^ h → freeS h st = none → onesS 0 h ≤ st ∧ st - onesS 0 h < 4 ^ h := by decide +kernel

theorem pow_le256 {h : Nat} (hh : h < 5) : 4 ^ h ≤ 256 := by
  have : (4 : Nat) ^ h ≤ 4 ^ 4 := Nat.pow_le_pow_right (by omega) (by omega)
  simpa using this

theorem foldl_congr' {β : Type} {f g : β → Nat → β} {l : List Nat} (h : ∀ x ∈ l, ∀ b, f b x = g b x) (b : β) : l.foldl f b = l.foldl g b := by
  induction l generalizing b with
  | nil => rfl
  | cons x r ih =>
    rw [List.foldl_cons, List.foldl_cons, h x (by simp)]
    exact ih (fun y hy => h y (by simp [hy])) _

theorem Ev_stable (one zero : α) (step : Nat → α → α → α) {h : Nat} (hh : h < 5) : ∀ (n left st : Nat), st < 4 ^ h → mu h left st < n → Ev one zero step h (n + 1) left st = Ev one zero step h n left st
  | 0, _, _, _, hm => by omega
  | n + 1, left, st, hst, hm => by
    conv => lhs; rw [Ev]
    conv => rhs; rw [Ev]
    split
    · rfl
    · rename_i hl
      split
      · rename_i hf
        have := shift_lt h hh st (Nat.lt_of_lt_of_le hst (pow_le256 hh)) hst hf
        refine Ev_stable one zero step hh n _ _ this.2 ?_
        have hz := zer_le h (st - onesS 0 h)
        have : (h + 1) * left = (h + 1) * (left - 1) + (h + 1) := by
          rw [← Nat.mul_succ]; congr 1; omega
        unfold mu at hm ⊢
        omega
      · rename_i r hf
        refine foldl_congr' (fun i hi acc => ?_) _
        split
        · rename_i l s hn
          have hi' : i < h := by simpa using hi
          obtain ⟨k1, k2, _⟩ := nx_mu hh hst (by omega) (by omega) hn
          rw [Ev_stable one zero step hh n l s k2 (by omega)]
        · rfl

/-- With steps enough. -/
def Es (one zero : α) (step : Nat → α → α → α) (h left st : Nat) : α := Ev one zero step h 200 left st

theorem Ev_any (one zero : α) (step : Nat → α → α → α) {h left st : Nat} (hh : h < 5) (hst : st < 4 ^ h) {n : Nat} (hm : mu h left st < n) (hn : n ≤ 200) : Ev one zero step h n left st = Es one zero step h left st := by
  have : ∀ k, n + k ≤ 200 → Ev one zero step h (n + k) left st = Ev one zero step h n left st := by
    intro k
    induction k with
    | zero => intro _; rfl
    | succ k ih =>
      intro hk
      rw [← ih (by omega)]
      exact Ev_stable one zero step hh (n + k) left st hst (by omega)
  have h2 := this (200 - n) (by omega)
  rw [show n + (200 - n) = 200 by omega] at h2
  exact h2.symm

theorem mu_small {h left st : Nat} (hh : h < 5) (hl : left ≤ 30) : mu h left st < 190 := by
  have := zer_le h st
  have h2 : (h + 1) * left ≤ 5 * 30 := Nat.mul_le_mul (by omega) hl
  unfold mu; omega

theorem Es_zero (one zero : α) (step : Nat → α → α → α) {h : Nat} : Es one zero step h 0 0 = one := by
  unfold Es; rw [Ev]; simp

theorem Es_shift (one zero : α) (step : Nat → α → α → α) {h left st : Nat} (hh : h < 5) (hl : left ≤ 30) (hst : st < 4 ^ h) (h0 : left ≠ 0) (hf : freeS h st = none) : Es one zero step h left st = Es one zero step h (left - 1) (st - onesS 0 h) := by
  have hs := shift_lt h hh st (Nat.lt_of_lt_of_le hst (pow_le256 hh)) hst hf
  conv => lhs; unfold Es
  rw [Ev, if_neg h0, hf]
  have := mu_small (h := h) (left := left - 1) (st := st - onesS 0 h) hh (by omega)
  exact Ev_any one zero step hh hs.2 (by omega) (by omega)

theorem Es_put (one zero : α) (step : Nat → α → α → α) {h left st r : Nat} (hh : h < 5) (hl : left ≤ 30) (hst : st < 4 ^ h) (h0 : left ≠ 0) (hf : freeS h st = some r) :
    Es one zero step h left st = (List.range h).foldl (fun acc i => match nx h left st r (i + 1) with
      | some (l, s) => step (i + 1) acc (Es one zero step h l s)
      | none => acc) zero := by
  conv => lhs; unfold Es
  rw [Ev, if_neg h0, hf]
  refine foldl_congr' (fun i hi acc => ?_) _
  split
  · rename_i l s hn
    have hi' : i < h := by simpa using hi
    obtain ⟨_, k2, k3⟩ := nx_mu hh hst (by omega) (by omega) hn
    have := mu_small (h := h) (left := l) (st := s) hh (by omega)
    rw [Ev_any one zero step hh k2 (by omega) (by omega)]
  · rfl

/-- The same, seen through a map. -/
theorem Ev_hom {β : Type} (f : α → β) (one zero : α) (step : Nat → α → α → α) (one' zero' : β) (step' : Nat → β → β → β) (h1 : f one = one') (h0 : f zero = zero') (hs : ∀ i a b, f (step i a b) = step' i (f a) (f b)) {h : Nat} :
    ∀ (n left st : Nat), f (Ev one zero step h n left st) = Ev one' zero' step' h n left st
  | 0, _, _ => h0
  | n + 1, left, st => by
    rw [Ev, Ev]
    split
    · split
      · exact h1
      · exact h0
    · split
      · exact Ev_hom f one zero step one' zero' step' h1 h0 hs n _ _
      · rename_i r _
        have : ∀ (l : List Nat) (a : α) (b : β), f a = b → f (l.foldl (fun acc i => match nx h left st r (i + 1) with
            | some (l, s) => step (i + 1) acc (Ev one zero step h n l s)
            | none => acc) a) = l.foldl (fun acc i => match nx h left st r (i + 1) with
            | some (l, s) => step' (i + 1) acc (Ev one' zero' step' h n l s)
            | none => acc) b := by
          intro l
          induction l with
          | nil => intro a b hab; exact hab
          | cons x r ih =>
            intro a b hab
            rw [List.foldl_cons, List.foldl_cons]
            refine ih _ _ ?_
            split
            · rw [hs, hab, Ev_hom f one zero step one' zero' step' h1 h0 hs n _ _]
            · exact hab
        exact this _ _ _ h0

theorem Es_hom {β : Type} (f : α → β) (one zero : α) (step : Nat → α → α → α) (one' zero' : β) (step' : Nat → β → β → β) (h1 : f one = one') (h0 : f zero = zero') (hs : ∀ i a b, f (step i a b) = step' i (f a) (f b)) {h left st : Nat} :
    f (Es one zero step h left st) = Es one' zero' step' h left st := Ev_hom f one zero step one' zero' step' h1 h0 hs _ _ _

end Go.Proofs.Ytmfdkjjhdjkgpaa

/- Filling strips, told without any program: a state is a number of digits of 4, one a row: how many columns are full ahead. -/
import Derived.Test.YtmfdkjjhdjkgpaaQZe
namespace Go.Proofs.Ytmfdkjjhdjkgpaa

def dg (st i : Nat) : Nat := st / 4 ^ i % 4

def freeS (h st : Nat) : Option Nat := (List.range h).find? fun i => dg st i == 0

def clearB (st r side : Nat) : Bool := (List.range side).all fun k => dg st (r + k) == 0

def onesS (r side : Nat) : Nat := ((List.range side).map fun k => 4 ^ (r + k)).sum

def putS (h left st r side : Nat) : Option Nat := if r + side ≤ h ∧ side ≤ left ∧ clearB st r side = true then some (st + side * onesS r side) else none

def nx (h left st r side : Nat) : Option (Nat × Nat) := if side = 4 then (if st = 0 ∧ 4 ≤ left then some (left - 4, 0) else none) else (putS h left st r side).map fun s => (left, s)

variable {α : Type}

/-- What is told of all ways to fill what is left: one for what is filled, the sides' in order. -/
def Ev (one zero : α) (step : Nat → α → α → α) (h : Nat) : Nat → Nat → Nat → α
  | 0, _, _ => zero
  | n + 1, left, st => if left = 0 then (if st = 0 then one else zero) else match freeS h st with
    | none => Ev one zero step h n (left - 1) (st - onesS 0 h)
    | some r => (List.range h).foldl (fun acc i => match nx h left st r (i + 1) with
      | some (l, s) => step (i + 1) acc (Ev one zero step h n l s)
      | none => acc) zero

/-- With steps enough. -/
def Es (one zero : α) (step : Nat → α → α → α) (h left st : Nat) : α := Ev one zero step h 200 left st

end Go.Proofs.Ytmfdkjjhdjkgpaa

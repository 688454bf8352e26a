/- The law on strips of a rank. -/
import Derived.Test.YtmfdkjjhdjkgpaaQZw
import Derived.Test.YtmfdkjjhdjkgpaaQIcof
namespace Go.Proofs.Ytmfdkjjhdjkgpaa
open Go Go.RowKit
set_option maxRecDepth 10000
set_option maxHeartbeats 4000000
set_option linter.unusedSimpArgs false

theorem ranked_facts {h l : Nat} {r : Int} (hh : 1 ≤ h ∧ h < 5) (hl : 1 ≤ l ∧ l ≤ 30) (hr : 0 ≤ r ∧ r < (Cn h l 0 : Nat)) : (ranked h l r).length ≤ 120 ∧ ∀ s ∈ ranked h l r, 1 ≤ s ∧ s ≤ 4 := by
  have key : ∀ (n i : Nat) (R : List Nat) (r' : Int) (L : List Int) (X st : Nat), 121 - i ≤ n → RkAt h l r i R r' L X st → (ranked h l r).length ≤ 120 ∧ ∀ s ∈ ranked h l r, 1 ≤ s ∧ s ≤ 4 := by
    intro n
    induction n with
    | zero =>
      intro i R r' L X st hn hk
      have := hk.many hh.2 hl.2
      omega
    | succ n ih =>
      intro i R r' L X st hn hk
      have hm := hk.many hh.2 hl.2
      have hX := hk.le
      rcases Nat.lt_or_ge X l with g | g
      · obtain ⟨y, hy⟩ := Option.isSome_iff_exists.1 hk.at_.free
        obtain ⟨s, hp⟩ := pick_ex hh hl.2 g hk.at_ hy hk.hi
        obtain ⟨X', st', _, _, _, hk'⟩ := rk_step hh hl.2 hk hy hp
        exact ih _ _ _ _ _ _ (by omega) hk'
      · have : X = l := by omega
        subst this
        rw [rk_end hh.2 hl.2 hk]
        exact ⟨by rw [hk.len]; omega, hk.side⟩
  exact key 121 0 _ _ _ _ _ (Nat.sub_le _ _) (rk_start hh hl.2 hr)

theorem countR_eq {h l : Nat} (hh : 1 ≤ h ∧ h < 5) (hl : 1 ≤ l ∧ l ≤ 30) : countR h l = (((Cn h l 0 : Nat) : Int), true) := by
  have hsm := Cn_any (left := l) (st := 0) hh hl.2 (Nat.pow_pos (by omega))
  unfold countR
  rw [if_pos (by simp only [stripB, inB, Bool.and_eq_true, decide_eq_true_eq]; omega)]
  rw [Int.toNat_natCast, Int.toNat_natCast, Vw_Cn, wrap_i64 _ (by omega) (by omega)]

end Go.Proofs.Ytmfdkjjhdjkgpaa

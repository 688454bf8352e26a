/- The reference's choices from bytes. -/
import Derived.Test.YtnmeehiahlfgaaaQZf
import Derived.Test.YtnmeehiahlfgaaaQMst
namespace Go.Proofs.Ytnmeehiahlfgaaa
open Go Go.RowKit
set_option maxRecDepth 10000
set_option maxHeartbeats 2000000
set_option linter.unusedSimpArgs false

/-- Rows of bytes. -/
def rb (n : Nat) : List DC := [.v (.int .u8 (n : Int))]

def curO (B : List Nat) (at_ : Nat) (seed : Int) : OB := .box [.d (.list 1 (B.map rb)), .d (dI at_), .d (.v (.int .u64 seed))]

theorem rb_get {l : List Nat} {i : Nat} {x : List DC} (h : (l.map rb)[i]? = some x) : ∃ k, l[i]? = some k ∧ x = rb k := by
  rw [List.getElem?_map] at h
  cases hk : l[i]? with
  | none => rw [hk] at h; cases h
  | some k => rw [hk] at h; exact ⟨k, rfl, (Option.some.inj h).symm⟩

/-- The last eight bits. -/
def lowB (x : Int) : Nat := (BitVec.ofInt IntKind.u64.bits x &&& BitVec.ofInt IntKind.u64.bits 255).toNat

theorem low_le (x : Int) : lowB x ≤ 255 := by
  unfold lowB
  rw [BitVec.toNat_and]
  exact Nat.and_le_right

theorem low_eq (x : Int) : IntKind.i64.wrap (IntKind.u64.wrap (((BitVec.ofInt IntKind.u64.bits x &&& BitVec.ofInt IntKind.u64.bits 255).toNat : Nat) : Int)) = (lowB x : Int) := by
  have h := low_le x
  show IntKind.i64.wrap (IntKind.u64.wrap ((lowB x : Nat) : Int)) = _
  generalize lowB x = n at h
  have e : IntKind.u64.wrap (n : Int) = n := by
    simp [IntKind.wrap, IntKind.bits, IntKind.signed]; omega
  rw [e, wrap_i64 _ (by omega) (by omega)]

theorem next_c (B : List Nat) (p : Nat) (seed : Int) (hB : B.length ≤ 2 ^ 30) (hby : ∀ x ∈ B, x ≤ 255) (hp : p ≤ 2 ^ 30) :
    CallX G.P 59 [.c (.ptr 0 0 0)] [(0, curO B p seed)]
      (fun sv objs' => ∃ (v : Nat) (seed' : Int) (gs : Objs), v ≤ 255 ∧ sv = .one (.c (vI v)) ∧ objs' = (0, curO B (p + 1) seed') :: gs) := by
  refine call_body (G := G) Try.func59 rfl (by decide) (Nat.le_of_ble_eq_true rfl) ?_
  conv => whnf
  have hwp : IntKind.i64.wrap ((p : Int) + 1) = ((p + 1 : Nat) : Int) := by rw [wrap_i64 _ (by omega) (by omega)]; omega
  repeat' first
    | (refine draw_mkW (by kernel_rfl) ?_; conv => whnf)
    | exact True.intro
    | (refine Both.mk ?_ ?_ <;> conv => whnf)
    | (refine NilQ.mk (fun hnil => ?_) ?_ <;> conv => whnf)
    | (refine Br.mk (fun hb => ?_) (fun hb => ?_) <;> conv => whnf)
    | (refine El.mk (fun el hel => ?_); obtain ⟨v, hv, rfl⟩ := rb_get hel; conv => whnf)
    | (refine And.intro ?_ ?_; (focus (first | decide | omega | (simp [contentOK, objRd, objAt, peel, List.length_map]; done) | (simp [contentOK, objRd, objAt, peel, List.length_map]; omega) | (simp [contentOK, objRd, objAt, peel, List.length_map] at *; omega))); conv => whnf)
    | (refine And.intro ?_ ?_ <;> conv => whnf)
  all_goals rw [hwp]
  all_goals first
    | exact ⟨0, _, [], Nat.zero_le _, rfl, rfl⟩
    | (have hv2 := hby v (List.mem_of_getElem? hv); rw [show IntKind.i64.wrap (v : Int) = v from wrap_i64 _ (by omega) (by omega)]; exact ⟨v, _, [], hv2, rfl, rfl⟩)
    | (rw [low_eq]; exact ⟨lowB _, _, [], low_le _, rfl, rfl⟩)


/-- A choice among n. -/
theorem pick_c (B : List Nat) (p n : Nat) (seed : Int) (hB : B.length ≤ 2 ^ 30) (hby : ∀ x ∈ B, x ≤ 255) (hp : p ≤ 2 ^ 20) (hn : 2 ≤ n ∧ n ≤ 200) :
    CallX G.P 48 [.c (.ptr 0 0 0), .c (vI n)] [(0, curO B p seed)]
      (fun sv objs' => ∃ (v : Nat) (seed' : Int) (gs : Objs), v < n ∧ sv = .one (.c (vI v)) ∧ objs' = (0, curO B (p + 1) seed') :: gs) := by
  refine call_body (G := G) Try.func48 rfl (by decide) (Nat.le_of_ble_eq_true rfl) ?_
  conv => whnf
  refine Br.mk (fun hb1 => ?_) (fun hb1 => ?_) <;> conv => whnf
  · exfalso; simp at hb1; omega
  refine frameN [0] (next_c B p seed hB hby (by omega)) rfl (by decide) ⟨rfl, rfl⟩ rfl ?_
  rintro _ _ ⟨v, seed', gs, hv, rfl, rfl⟩
  refine ⟨[_], gs, rfl, Nat.le_refl _, rfl, ?_⟩
  conv => whnf
  refine Br.mk (fun hb2 => ?_) (fun hb2 => ?_) <;> conv => whnf
  · exfalso; simp at hb2; omega
  refine ⟨by omega, ?_⟩
  conv => whnf
  exact ⟨v % n, seed', [], Nat.mod_lt _ (by omega), rfl, rfl⟩

theorem one_c (B : List Nat) (p n : Nat) (seed : Int) (hB : B.length ≤ 2 ^ 30) (hby : ∀ x ∈ B, x ≤ 255) (hp : p ≤ 2 ^ 20) (hn : 2 ≤ n ∧ n ≤ 200) :
    CallX G.P 57 [.c (.ptr 0 0 0), .c (vI n)] [(0, curO B p seed)]
      (fun sv objs' => ∃ (b : Bool) (seed' : Int) (gs : Objs), sv = .one (.c (.d (.v (.bool b)))) ∧ objs' = (0, curO B (p + 1) seed') :: gs) := by
  refine call_body (G := G) Try.func57 rfl (by decide) (Nat.le_of_ble_eq_true rfl) ?_
  conv => whnf
  refine frameN [0] (pick_c B p n seed hB hby (by omega) hn) rfl (by decide) ⟨rfl, rfl⟩ rfl ?_
  rintro _ _ ⟨v, seed', gs, hv, rfl, rfl⟩
  refine ⟨[_], gs, rfl, Nat.le_refl _, rfl, ?_⟩
  conv => whnf
  exact ⟨_, seed', [], rfl, rfl⟩

theorem among_c (B : List Nat) (p : Nat) (seed : Int) (l : List Int) (cap : Option Nat) (hB : B.length ≤ 2 ^ 30) (hby : ∀ x ∈ B, x ≤ 255) (hp : p ≤ 2 ^ 20) (hn : 2 ≤ l.length ∧ l.length ≤ 200) :
    CallX G.P 45 [.c (.ptr 0 0 0), .c (.sl 1 0 1 0 l.length cap)] [(0, curO B p seed), (0, .arr 1 (l.map r1))]
      (fun sv objs' => ∃ (v : Int) (seed' : Int) (gs : Objs), sv = .one (.c (vI v)) ∧ objs' = (0, curO B (p + 1) seed') :: (0, .arr 1 (l.map r1)) :: gs) := by
  refine call_body (G := G) Try.func45 rfl (by decide) (Nat.le_of_ble_eq_true rfl) ?_
  conv => whnf
  refine frameN [0] (pick_c B p l.length seed hB hby (by omega) hn) rfl (by decide) ⟨rfl, rfl⟩ rfl ?_
  rintro _ _ ⟨v, seed', gs, hv, rfl, rfl⟩
  refine ⟨[_], gs, rfl, Nat.le_refl _, rfl, ?_⟩
  conv => whnf
  repeat' first
    | exact True.intro
    | (refine Both.mk ?_ ?_ <;> conv => whnf)
    | (refine NilQ.mk (fun hnil => ?_) ?_ <;> conv => whnf)
    | (refine Br.mk (fun hb => ?_) (fun hb => ?_) <;> conv => whnf)
    | (refine El.mk (fun el hel => ?_); obtain ⟨e, he, rfl⟩ := r1_get hel; conv => whnf)
    | (refine And.intro ?_ ?_; (focus (first | decide | omega | (simp [contentOK, objRd, objAt, peel, List.length_map]; done) | (simp [contentOK, objRd, objAt, peel, List.length_map]; omega) | (simp [contentOK, objRd, objAt, peel, List.length_map] at *; omega))); conv => whnf)
  exact ⟨e, seed', [], rfl, rfl⟩

/-- A height and a length, drawn. -/
theorem strip_c (B : List Nat) (p : Nat) (seed : Int) (hB : B.length ≤ 2 ^ 30) (hby : ∀ x ∈ B, x ≤ 255) (hp : p ≤ 2 ^ 10) :
    CallX G.P 44 [.c (.ptr 0 0 0)] [(0, curO B p seed)]
      (fun sv objs' => ∃ (a b seed' : Int) (gs : Objs), sv = .tup [.c (vI a), .c (vI b)] ∧ objs' = (0, curO B (p + 3) seed') :: gs) := by
  refine call_body (G := G) Try.func44 rfl (by decide) (Nat.le_of_ble_eq_true rfl) ?_
  conv => whnf
  refine frameN [0] (one_c B p 10 seed hB hby (by omega) (by omega)) rfl (by decide) ⟨rfl, rfl⟩ rfl ?_
  rintro _ _ ⟨b, seed1, gs1, rfl, rfl⟩
  refine ⟨[_], gs1, rfl, Nat.le_refl _, rfl, ?_⟩
  conv => whnf
  refine Br.mk (fun hb1 => ?_) (fun hb1 => ?_) <;> conv => whnf
  · refine frameN [0, 1] (among_c B (p + 1) seed1 [0, 1, 4, 5, -1] (some 5) hB hby (by omega) (by decide)) rfl (by decide) ⟨rfl, rfl, rfl⟩ rfl ?_
    rintro _ _ ⟨v1, seed2, gs2, rfl, rfl⟩
    refine ⟨[_, _], gs2, rfl, Nat.le_refl _, rfl, ?_⟩
    conv => whnf
    refine frameN [0, 2] (among_c B (p + 2) seed2 [1, 0, 30, 31, -1] (some 5) hB hby (by omega) (by decide)) rfl (by decide) ⟨rfl, rfl, rfl⟩ rfl ?_
    rintro _ _ ⟨v2, seed3, gs3, rfl, rfl⟩
    refine ⟨[_, _], gs3, rfl, Nat.le_refl _, rfl, ?_⟩
    conv => whnf
    exact ⟨v1, v2, seed3, _, rfl, rfl⟩
  · refine frameN [0] (pick_c B (p + 1) 4 seed1 hB hby (by omega) (by omega)) rfl (by decide) ⟨rfl, rfl⟩ rfl ?_
    rintro _ _ ⟨v1, seed2, gs2, h2, rfl, rfl⟩
    refine ⟨[_], gs2, rfl, Nat.le_refl _, rfl, ?_⟩
    conv => whnf
    refine frameN [0] (pick_c B (p + 2) 8 seed2 hB hby (by omega) (by omega)) rfl (by decide) ⟨rfl, rfl⟩ rfl ?_
    rintro _ _ ⟨v2, seed3, gs3, h3, rfl, rfl⟩
    refine ⟨[_], gs3, rfl, Nat.le_refl _, rfl, ?_⟩
    conv => whnf
    exact ⟨_, _, seed3, _, rfl, rfl⟩

theorem drawStrip_c (B : List Nat) (hB : B.length ≤ 2 ^ 30) (hby : ∀ x ∈ B, x ≤ 255) :
    CallX G.P 26 [.c (.d (.list 1 (B.map rb)))] [] (fun sv _ => ∃ a b : Int, sv = .tup [.c (vI a), .c (vI b)]) := by
  refine call_body (G := G) Try.func26 rfl (by decide) (Nat.le_of_ble_eq_true rfl) ?_
  conv => whnf
  refine frameN [0] (strip_c B 0 0 hB hby (by omega)) rfl (by decide) ⟨rfl, rfl⟩ rfl ?_
  rintro _ _ ⟨a, b, seed1, gs1, rfl, rfl⟩
  refine ⟨[_], gs1, rfl, Nat.le_refl _, rfl, ?_⟩
  conv => whnf
  exact ⟨a, b, rfl⟩

theorem drawBy_c (B : List Nat) (hB : B.length ≤ 2 ^ 30) (hby : ∀ x ∈ B, x ≤ 255) :
    CallX G.P 5 [.c (.d (.list 1 (B.map rb)))] [] (fun sv _ => ∃ a b : Int, sv = .tup [.c (vI a), .c (vI b)]) := by
  refine call_body (G := G) Try.func5 rfl (by decide) (Nat.le_of_ble_eq_true rfl) ?_
  conv => whnf
  refine frameN [] (drawStrip_c B hB hby) rfl (by decide) rfl rfl ?_
  rintro _ gs ⟨a, b, rfl⟩
  refine ⟨[], gs, rfl, Nat.le_refl _, rfl, ?_⟩
  conv => whnf
  exact ⟨a, b, rfl⟩

theorem drawWithout_c (B : List Nat) (hB : B.length ≤ 2 ^ 30) (hby : ∀ x ∈ B, x ≤ 255) :
    CallX G.P 20 [.c (.d (.list 1 (B.map rb)))] [] (fun sv _ => ∃ a b c : Int, sv = .tup [.c (vI a), .c (vI b), .c (vI c)]) := by
  refine call_body (G := G) Try.func20 rfl (by decide) (Nat.le_of_ble_eq_true rfl) ?_
  conv => whnf
  refine frameN [0] (strip_c B 0 0 hB hby (by omega)) rfl (by decide) ⟨rfl, rfl⟩ rfl ?_
  rintro _ _ ⟨a, b, seed1, gs1, rfl, rfl⟩
  refine ⟨[_], gs1, rfl, Nat.le_refl _, rfl, ?_⟩
  conv => whnf
  refine frameN [0, 1] (among_c B 3 seed1 [1, 2, 3, 4, 5, 0] (some 6) hB hby (by omega) (by decide)) rfl (by decide) ⟨rfl, rfl, rfl⟩ rfl ?_
  rintro _ _ ⟨v1, seed2, gs2, rfl, rfl⟩
  refine ⟨[_, _], gs2, rfl, Nat.le_refl _, rfl, ?_⟩
  conv => whnf
  exact ⟨a, b, v1, rfl⟩

theorem drawThrough_c (B : List Nat) (hB : B.length ≤ 2 ^ 30) (hby : ∀ x ∈ B, x ≤ 255) :
    CallX G.P 23 [.c (.d (.list 1 (B.map rb)))] [] (fun sv _ => ∃ a b c : Int, sv = .tup [.c (vI a), .c (vI b), .c (vI c)]) := by
  refine call_body (G := G) Try.func23 rfl (by decide) (Nat.le_of_ble_eq_true rfl) ?_
  conv => whnf
  refine frameN [0] (strip_c B 0 0 hB hby (by omega)) rfl (by decide) ⟨rfl, rfl⟩ rfl ?_
  rintro _ _ ⟨a, b, seed1, gs1, rfl, rfl⟩
  refine ⟨[_], gs1, rfl, Nat.le_refl _, rfl, ?_⟩
  conv => whnf
  refine frameN [0] (pick_c B 3 9 seed1 hB hby (by omega) (by omega)) rfl (by decide) ⟨rfl, rfl⟩ rfl ?_
  rintro _ _ ⟨v1, seed2, gs2, h2, rfl, rfl⟩
  refine ⟨[_], gs2, rfl, Nat.le_refl _, rfl, ?_⟩
  conv => whnf
  exact ⟨a, b, _, rfl⟩

end Go.Proofs.Ytnmeehiahlfgaaa

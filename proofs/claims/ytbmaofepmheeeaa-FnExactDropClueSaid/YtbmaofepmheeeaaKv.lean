/- Frames: a callee that is known over objects of its own is called where these lie among others, under other numbers. -/
import Derived.Test.YtbmaofepmheeeaaKu
namespace Go.Proofs.Ytbmaofepmheeeaa
open Go Go.RowKit

def rnCV (σ : Nat → Nat) : CV → CV
  | .ptr o v off => .ptr (σ o) v off
  | .eptr o v e i j => .eptr (σ o) v e i j
  | .sl o v e off len cap => .sl (σ o) v e off len cap
  | .gsl o v p e off len => .gsl (σ o) v p e off len
  | .gptr o v p e i j => .gptr (σ o) v p e i j
  | .mp o v => .mp (σ o) v
  | .fn f caps => .fn f (caps.map fun (o, v, off) => (σ o, v, off))
  | x => x

theorem rnCV_id {x : CV} : rnCV (fun o => o) x = x := by
  cases x <;> simp [rnCV]

theorem bV1_id {x : V1} : bV1 (rnCV fun o => o) x = x := by
  have : (rnCV fun o => o) = id := funext fun _ => rnCV_id
  cases x <;> simp [bV1, this]

theorem bOB_id : ∀ {b : OB}, bOB (rnCV fun o => o) b = b
  | .dead => rfl
  | .arr _ _ => rfl
  | .grid _ _ => rfl
  | .map _ _ => rfl
  | .box cs => by
    have : (rnCV fun o => o) = id := funext fun _ => rnCV_id
    simp [bOB, this]
  | .fro r b => by simp [bOB, bOB_id (b := b)]

structure MoveRef (c : Ctx) (objs : Objs) (c' : Ctx) (objs' : Objs) (o o' : Nat) : Prop where
  known : ∀ ver, Known objs o ver → Known objs' o' ver
  live : ∀ ver, Live objs' o' ver → Live objs o ver
  φ : c'.φ o' = c.φ o
  ψ : c'.ψ o' = c.ψ o

section
variable {c c' : Ctx} {objs objs' : Objs} {w : World} {α β : Nat → Nat} {n : Nat}

theorem ptrIs_move {o o' ver off : Nat} {u : Value} (hm : MoveRef c objs c' objs' o o') (h : PtrIs c objs o ver off u) : PtrIs c' objs' o' ver off u := by
  refine ⟨h.1, hm.known _ h.2.1, fun hl => ?_⟩
  obtain ⟨b, base, k1, k2⟩ := h.2.2 (hm.live _ hl)
  exact ⟨b, base, hm.φ.trans k1, k2⟩

theorem relCV_move (hm : ∀ o, o < n → MoveRef c objs c' objs' (α o) (β o)) (hR : ∀ b, c.R b → c'.R b) {x : CV} {u : Value} (hc : clCV n x = true) (h : RelCV c objs w (rnCV α x) u) : RelCV c' objs' w (rnCV β x) u := by
  cases x with
  | d x => exact Rep.mono hR (fun _ _ => rfl) h
  | nilsl => exact h
  | esl => exact h
  | ip e xs i j =>
    obtain ⟨b, off, u', h1, h2⟩ := h
    exact ⟨b, off, u', Rep.mono hR (fun _ _ => rfl) h1, h2⟩
  | ptr o ver off => exact ptrIs_move (hm o (blt_lt hc)) h
  | eptr o ver e i j => exact ptrIs_move (hm o (blt_lt hc)) h
  | sl o ver e off len cap =>
    have m := hm o (blt_lt hc)
    refine ⟨h.1, m.known _ h.2.1, fun hl => ?_⟩
    obtain ⟨a, cp, k1, k2, k3, k4⟩ := h.2.2 (m.live _ hl)
    refine ⟨a, cp, k1, k2, k3, fun h0 => ?_⟩
    obtain ⟨b, base, cs, T, q1, q2⟩ := k4 h0
    exact ⟨b, base, cs, T, m.φ.trans q1, q2⟩
  | gsl o ver p e off len =>
    have m := hm o (blt_lt hc)
    refine ⟨h.1, m.known _ h.2.1, fun hl => ?_⟩
    obtain ⟨a, cp, k1, k2, k4⟩ := h.2.2 (m.live _ hl)
    refine ⟨a, cp, k1, k2, fun h0 => ?_⟩
    obtain ⟨b, base, q1, q2⟩ := k4 h0
    exact ⟨b, base, by rw [m.ψ]; exact q1, q2⟩
  | gptr o ver p e i j =>
    have m := hm o (blt_lt hc)
    refine ⟨h.1, m.known _ h.2.1, fun hl => ?_⟩
    obtain ⟨b, base, q1, q2⟩ := h.2.2 (m.live _ hl)
    exact ⟨b, base, by rw [m.ψ]; exact q1, q2⟩
  | mp o ver =>
    have m := hm o (blt_lt hc)
    refine ⟨h.1, m.known _ h.2.1, fun hl => ?_⟩
    obtain ⟨b, base, q1, q2⟩ := h.2.2 (m.live _ hl)
    exact ⟨b, base, m.φ.trans q1, q2⟩
  | fn f caps =>
    obtain ⟨vs, h1, h2, h3⟩ := h
    refine ⟨vs, h1, by simpa using h2, fun i o ver off hi => ?_⟩
    rw [List.getElem?_map, Option.map_eq_some_iff] at hi
    obtain ⟨⟨o0, v0, f0⟩, hi, he⟩ := hi
    simp only [Prod.mk.injEq] at he
    obtain ⟨rfl, rfl, rfl⟩ := he
    obtain ⟨u', k1, k2⟩ := h3 i (α o0) v0 f0 (by rw [List.getElem?_map, hi]; rfl)
    have := List.all_eq_true.1 hc _ (List.mem_of_getElem? hi)
    exact ⟨u', k1, ptrIs_move (hm o0 (blt_lt this)) k2⟩

theorem relV1_move (hm : ∀ o, o < n → MoveRef c objs c' objs' (α o) (β o)) (hR : ∀ b, c.R b → c'.R b) {x : V1} {u : Value} (hc : clV1 n x = true) (h : RelV1 c objs w (bV1 (rnCV α) x) u) : RelV1 c' objs' w (bV1 (rnCV β) x) u := by
  cases x with
  | c x => exact relCV_move hm hR hc h
  | agg xs =>
    obtain ⟨vs, h1, h2, h3⟩ := h
    refine ⟨vs, h1, by simpa using h2, fun i x hi => ?_⟩
    rw [List.getElem?_map, Option.map_eq_some_iff] at hi
    obtain ⟨y, hi, rfl⟩ := hi
    obtain ⟨u', k1, k2⟩ := h3 i (rnCV α y) (by rw [List.getElem?_map, hi]; rfl)
    exact ⟨u', k1, relCV_move hm hR (List.all_eq_true.1 hc _ (List.mem_of_getElem? hi)) k2⟩

theorem relSV_move (hm : ∀ o, o < n → MoveRef c objs c' objs' (α o) (β o)) (hR : ∀ b, c.R b → c'.R b) {x : SV} {u : Value} (hc : clSV n x = true) (h : RelSV c objs w (bSV (rnCV α) x) u) : RelSV c' objs' w (bSV (rnCV β) x) u := by
  cases x with
  | un => trivial
  | one x => exact relV1_move hm hR hc h
  | tup xs =>
    obtain ⟨vs, h1, h2, h3⟩ := h
    refine ⟨vs, h1, by simpa using h2, fun i x hi => ?_⟩
    rw [List.getElem?_map, Option.map_eq_some_iff] at hi
    obtain ⟨y, hi, rfl⟩ := hi
    obtain ⟨u', k1, k2⟩ := h3 i (bV1 (rnCV α) y) (by rw [List.getElem?_map, hi]; rfl)
    exact ⟨u', k1, relV1_move hm hR (List.all_eq_true.1 hc _ (List.mem_of_getElem? hi)) k2⟩

theorem has_move {o o' b : Nat} (h1 : c'.φ o' = c.φ o) (h2 : c'.ψ o' = c.ψ o) : c'.has o' b ↔ c.has o b := by
  unfold Ctx.has; rw [h1, h2]

theorem relOB_move (hm : ∀ o, o < n → MoveRef c objs c' objs' (α o) (β o)) (hR : ∀ b, c.R b → c'.R b) {o o' : Nat} (hφ : c'.φ o' = c.φ o) (hψ : c'.ψ o' = c.ψ o) {b : OB} (hc : clOB n b = true)
    (h : RelOB c objs w o (bOB (rnCV α) b)) : RelOB c' objs' w o' (bOB (rnCV β) b) := by
  induction b with
  | dead => trivial
  | arr e xs => exact relOB_plain (bd := .arr e xs) rfl hφ hψ hR h
  | grid e xs => exact relOB_plain (bd := .grid e xs) rfl hφ hψ hR h
  | map k es => exact relOB_plain (bd := .map k es) rfl hφ hψ hR h
  | fro r b ih => exact ⟨ih hc h.1, fun hr k hk => hR k (h.2 hr k ((has_move hφ hψ).1 hk))⟩
  | box cs =>
    obtain ⟨b, base, cs0, T, k1, k2, k3, k4⟩ := h
    refine ⟨b, base, cs0, T, hφ.trans k1, k2, by simpa using k3, fun i x hi => ?_⟩
    rw [List.getElem?_map, Option.map_eq_some_iff] at hi
    obtain ⟨y, hi, rfl⟩ := hi
    obtain ⟨u', m1, m2⟩ := k4 i (rnCV α y) (by rw [List.getElem?_map, hi]; rfl)
    exact ⟨u', m1, relCV_move hm hR (List.all_eq_true.1 hc _ (List.mem_of_getElem? hi)) m2⟩
end

/-- Where the callee's objects lie: the first ones at these places, those that it makes behind all others. -/
def rnN : List Nat → Nat → Nat → Nat
  | [] => fun n i => n + i
  | o :: L => fun n i => match i with
    | 0 => o
    | i + 1 => rnN L n i

def putL : List Nat → Objs → Objs → Objs
  | [] => fun objs r => objs ++ r
  | o :: L => fun objs r => match r with
    | [] => objs
    | x :: r => putL L (objs.set o x) r

abbrev putN (objs : Objs) (L : List Nat) (r : Objs) : Objs := putL L objs r

theorem putN_hit : ∀ {L : List Nat} {objs r : Objs} {i : Nat} {x : Nat × OB}, L.Nodup → (∀ o ∈ L, o < objs.length) → L.length ≤ r.length → r[i]? = some x → (putN objs L r)[rnN L objs.length i]? = some x
  | [], objs, r, i, x, _, _, _, h => by
    show (objs ++ r)[objs.length + i]? = _
    rw [List.getElem?_append_right (by omega), Nat.add_sub_cancel_left]; exact h
  | o :: L, objs, [], i, x, _, _, hl, _ => by simp at hl
  | o :: L, objs, y :: r, 0, x, hn, ho, hl, h => by
    simp only [List.getElem?_cons_zero, Option.some.injEq] at h
    subst h
    show (putN (objs.set o y) L r)[o]? = _
    have key : ∀ {L : List Nat} {objs r : Objs}, o < objs.length → o ∉ L → L.length ≤ r.length → (putN objs L r)[o]? = objs[o]? := by
      intro L
      induction L with
      | nil => intro objs r h1 _ _; show (objs ++ r)[o]? = _; rw [List.getElem?_append_left h1]
      | cons p L ih =>
        intro objs r h1 h2 h3
        cases r with
        | nil => simp at h3
        | cons z r =>
          show (putN (objs.set p z) L r)[o]? = _
          rw [ih (by simpa using h1) (fun h => h2 (List.mem_cons_of_mem _ h)) (by simpa using h3), List.getElem?_set_ne (fun h => h2 (by rw [h]; exact List.mem_cons_self))]
    rw [List.nodup_cons] at hn
    rw [key (by simpa using ho o List.mem_cons_self) hn.1 (by simpa using hl), List.getElem?_set_self (ho o List.mem_cons_self)]
  | o :: L, objs, y :: r, i + 1, x, hn, ho, hl, h => by
    rw [List.nodup_cons] at hn
    have := putN_hit (L := L) (objs := objs.set o y) (r := r) (i := i) (x := x) hn.2 (fun p hp => by simpa using ho p (List.mem_cons_of_mem _ hp)) (by simpa using hl) (by simpa using h)
    rw [List.length_set] at this
    exact this

theorem putN_miss : ∀ {L : List Nat} {objs r : Objs} {k : Nat}, k < objs.length → k ∉ L → L.length ≤ r.length → (putN objs L r)[k]? = objs[k]?
  | [], objs, r, k, h1, _, _ => by show (objs ++ r)[k]? = _; rw [List.getElem?_append_left h1]
  | p :: L, objs, [], k, _, _, h3 => by simp at h3
  | p :: L, objs, z :: r, k, h1, h2, h3 => by
    show (putN (objs.set p z) L r)[k]? = _
    rw [putN_miss (by simpa using h1) (fun h => h2 (List.mem_cons_of_mem _ h)) (by simpa using h3), List.getElem?_set_ne (fun h => h2 (by rw [h]; exact List.mem_cons_self))]

theorem putN_len : ∀ {L : List Nat} {objs r : Objs}, L.length ≤ r.length → (putN objs L r).length = objs.length + (r.length - L.length)
  | [], objs, r, _ => by show (objs ++ r).length = _; simp
  | p :: L, objs, [], h3 => by simp at h3
  | p :: L, objs, z :: r, h3 => by
    show (putN (objs.set p z) L r).length = _
    rw [putN_len (by simpa using h3)]; simp

theorem rnN_ge : ∀ {L : List Nat} {n i : Nat}, L.length ≤ i → rnN L n i = n + (i - L.length)
  | [], n, i, _ => rfl
  | _ :: L, n, 0, h => by simp at h
  | _ :: L, n, i + 1, h => by
    show rnN L n i = _
    rw [rnN_ge (by simpa using h)]; simp

theorem rnN_lt : ∀ {L : List Nat} {n i : Nat} {o : Nat}, L[i]? = some o → rnN L n i = o
  | [], n, i, o, h => by simp at h
  | p :: L, n, 0, o, h => by simpa [rnN] using h
  | _ :: L, n, i + 1, o, h => rnN_lt (L := L) (by simpa using h)

theorem rnN_mem {L : List Nat} {n i : Nat} (h : i < L.length) : rnN L n i ∈ L := by
  have : L[i]? = some L[i] := List.getElem?_eq_getElem h
  rw [rnN_lt this]; exact List.getElem_mem h

theorem rnN_inj {L : List Nat} {n i j : Nat} (hn : L.Nodup) (ho : ∀ o ∈ L, o < n) (h : rnN L n i = rnN L n j) : i = j := by
  rcases Nat.lt_or_ge i L.length with hi | hi <;> rcases Nat.lt_or_ge j L.length with hj | hj
  · rw [rnN_lt (List.getElem?_eq_getElem hi), rnN_lt (List.getElem?_eq_getElem hj)] at h
    exact (List.getElem_inj hn).1 h
  · have := ho _ (rnN_mem (n := n) hi)
    rw [rnN_ge hj] at h; omega
  · have := ho _ (rnN_mem (n := n) hj)
    rw [rnN_ge hi] at h; omega
  · rw [rnN_ge hi, rnN_ge hj] at h; omega

/-- The converse of rnN: which of the callee's objects lies there. -/
theorem rnN_or {L : List Nat} {n : Nat} (k : Nat) : (∃ i, rnN L n i = k) ∨ (k < n ∧ k ∉ L) := by
  by_cases hk : k ∈ L
  · obtain ⟨i, hi, rfl⟩ := List.mem_iff_getElem.1 hk
    exact .inl ⟨i, rnN_lt (List.getElem?_eq_getElem hi)⟩
  · rcases Nat.lt_or_ge k n with h | h
    · exact .inr ⟨h, hk⟩
    · exact .inl ⟨L.length + (k - n), by rw [rnN_ge (by omega)]; omega⟩

open Classical in
noncomputable def backN {β : Type} (L : List Nat) (n : Nat) (a b : Nat → β) (k : Nat) : β := if h : ∃ i, rnN L n i = k then a (Classical.choose h) else b k

theorem backN_hit {β : Type} {L : List Nat} {n : Nat} {a b : Nat → β} {i : Nat} (hn : L.Nodup) (ho : ∀ o ∈ L, o < n) : backN L n a b (rnN L n i) = a i := by
  unfold backN
  have h : ∃ j, rnN L n j = rnN L n i := ⟨i, rfl⟩
  rw [dif_pos h, rnN_inj hn ho (Classical.choose_spec h)]

theorem backN_miss {β : Type} {L : List Nat} {n : Nat} {a b : Nat → β} {k : Nat} (ho : ∀ o ∈ L, o < n) (h1 : k < n) (h2 : k ∉ L) : backN L n a b k = b k := by
  unfold backN
  rw [dif_neg]
  rintro ⟨i, rfl⟩
  rcases Nat.lt_or_ge i L.length with hi | hi
  · exact h2 (rnN_mem hi)
  · rw [rnN_ge hi] at h1; omega

def rnX (σ : Nat → Nat) (x : Nat × OB) : Nat × OB := (x.1, bOB (rnCV σ) x.2)

/-- What is there before a call, at the places where the callee's objects are to lie. -/
def subL (objs : Objs) (σ : Nat → Nat) : Objs → List Nat → Prop
  | [] => fun L => L = []
  | x :: r => fun L => match L with
    | [] => False
    | o :: L => objs[o]? = some (rnX σ x) ∧ subL objs σ r L

abbrev subN (objs : Objs) (σ : Nat → Nat) (L : List Nat) (r : Objs) : Prop := subL objs σ r L

theorem subN_get {objs : Objs} {σ : Nat → Nat} : ∀ {r : Objs} {L : List Nat}, subN objs σ L r → L.length = r.length ∧ (∀ o ∈ L, o < objs.length) ∧ ∀ (i : Nat) x, r[i]? = some x → ∃ o, L[i]? = some o ∧ objs[o]? = some (rnX σ x)
  | [], L, h => by
    have : L = [] := h
    subst this; simp
  | x :: r, [], h => h.elim
  | x :: r, o :: L, ⟨h1, h2⟩ => by
    obtain ⟨k1, k2, k3⟩ := subN_get h2
    refine ⟨by simp [k1], fun p hp => ?_, fun i y hy => ?_⟩
    · rcases List.mem_cons.1 hp with rfl | hp
      · exact (List.getElem?_eq_some_iff.1 h1).1
      · exact k2 p hp
    · cases i with
      | zero => simp at hy; subst hy; exact ⟨o, rfl, h1⟩
      | succ i => simpa using k3 i y (by simpa using hy)

theorem bOB_mine' {σ : Nat → Nat} (b : OB) : (bOB (rnCV σ) b).mine = b.mine := by cases b <;> rfl
theorem bOB_dead' {σ : Nat → Nat} {b : OB} : bOB (rnCV σ) b ≠ .dead ↔ b ≠ .dead := by cases b <;> simp [bOB]

set_option maxHeartbeats 1000000 in
theorem frameN {P : Program} {f : FuncId} {args0 args : List V1} {objs0 objs : Objs} {K0 K : SV → Objs → Prop} (L : List Nat) (hmin : CallX P f args0 objs0 K0)
    (hcl : (args0.all (clV1 objs0.length) && clObjs objs0.length objs0) = true) (hnd : L.Nodup) (hob : subN objs (rnN L objs.length) L objs0)
    (hargs : args = args0.map (bV1 (rnCV (rnN L objs.length))))
    (hK : ∀ sv objs1, K0 sv objs1 → ∃ t gs, objs1 = t ++ gs ∧ objs0.length ≤ t.length ∧ (clSV t.length sv && clObjs t.length t && t.all fun (_, b) => okF b) = true ∧ K (bSV (rnCV (rnN L objs.length)) sv) (putN objs L (t.map (rnX (rnN L objs.length))))) :
    CallX P f args objs K := by
  have hmin := callX_tail (K := fun sv t => objs0.length ≤ t.length ∧ (clSV t.length sv && clObjs t.length t && t.all fun (_, b) => okF b) = true ∧ K (bSV (rnCV (rnN L objs.length)) sv) (putN objs L (t.map (rnX (rnN L objs.length))))) hmin
    (fun sv objs1 h => by obtain ⟨t, gs, h1, h2, h3, h4⟩ := hK sv objs1 h; exact ⟨t, gs, h1, h2, (by rw [Bool.and_eq_true] at h3; exact h3.1), h2, h3, h4⟩)
  clear hK
  subst hargs
  obtain ⟨hlen, hlt, hget⟩ := subN_get hob
  rw [Bool.and_eq_true] at hcl
  obtain ⟨hca, hco⟩ := hcl
  obtain ⟨σ, hσ⟩ : ∃ σ, σ = rnN L objs.length := ⟨_, rfl⟩
  rw [← hσ] at hob hget hmin ⊢
  have hσi : ∀ {i j : Nat}, σ i = σ j → i = j := fun h => rnN_inj hnd hlt (by rw [← hσ]; exact h)
  have hσm : ∀ {i : Nat}, i < objs0.length → σ i ∈ L := fun h => by rw [hσ]; exact rnN_mem (by omega)
  have hat : ∀ {i : Nat} {x : Nat × OB}, objs0[i]? = some x → objs[σ i]? = some (rnX σ x) := by
    intro i x h
    obtain ⟨o, h1, h2⟩ := hget i x h
    rw [hσ, rnN_lt h1, ← hσ]; exact h2
  refine ⟨hmin.enter, fun c w vals hr hl hv => ?_⟩
  let c0 : Ctx := ⟨fun i => if i < objs0.length then c.φ (σ i) else none, c.R, fun i => if i < objs0.length then c.ψ (σ i) else fun _ => none⟩
  have hφ0 : ∀ {i : Nat}, i < objs0.length → c0.φ i = c.φ (σ i) := fun h => by simp [c0, h]
  have hψ0 : ∀ {i : Nat}, i < objs0.length → c0.ψ i = c.ψ (σ i) := fun h => by simp [c0, h]
  have hhas0 : ∀ {i b : Nat}, i < objs0.length → (c0.has i b ↔ c.has (σ i) b) := fun h => has_move (hφ0 h) (hψ0 h)
  have hli : ∀ {i : Nat} {x : Nat × OB}, objs0[i]? = some x → i < objs0.length := fun h => (List.getElem?_eq_some_iff.1 h).1
  have hback : ∀ o, o < objs0.length → MoveRef c objs c0 objs0 (σ o) o := by
    intro o ho
    have hx : objs0[o]? = some objs0[o] := List.getElem?_eq_getElem ho
    have hy := hat hx
    refine ⟨fun ver hk => ?_, fun ver hl => ?_, hφ0 ho, hψ0 ho⟩
    · obtain ⟨cur, b, h1, h2⟩ := hk
      rw [hy] at h1
      simp only [rnX, Option.some.injEq, Prod.mk.injEq] at h1
      exact ⟨_, _, hx, Nat.le_trans h2 (Nat.le_of_eq h1.1.symm)⟩
    · obtain ⟨b, h1, h2⟩ := hl
      rw [hx] at h1
      simp only [Option.some.injEq] at h1
      exact ⟨bOB (rnCV σ) b, by rw [hy, h1]; rfl, bOB_dead'.2 h2⟩
  have hown0 : ∀ {b : Nat}, Own c0 objs0 b → ∃ i x, objs0[i]? = some x ∧ x.2.mine = true ∧ c.has (σ i) b := by
    rintro b ⟨o', v', bd2, h1, h2, h3⟩
    exact ⟨o', _, h1, h2, (hhas0 (hli h1)).1 h3⟩
  have hownc : ∀ {i b : Nat} {x : Nat × OB}, objs0[i]? = some x → x.2.mine = true → c.has (σ i) b → Own c objs b := by
    intro i b x h1 h2 h3
    exact .mk' (hat h1) (by rw [bOB_mine']; exact h2) h3
  have hr0 : RelObjs c0 objs0 w := by
    refine ⟨fun o ver b h => ?_, fun o1 o2 v1 v2 b1 b2 b h1 d1 h2 d2 p1 p2 => ?_, hr.rsize, fun o ver bd b h1 h2 h3 => ?_, fun b hb => ?_⟩
    · have := relOB_move (α := σ) (β := fun o => o) (n := objs0.length) hback (fun _ h => h) (hφ0 (hli h)) (hψ0 (hli h)) (b := b) (List.all_eq_true.1 hco _ (List.mem_of_getElem? h)) (hr.ob _ _ _ (hat h))
      rwa [bOB_id] at this
    · exact hσi (hr.inj _ _ _ _ _ _ b (hat h1) (by rw [bOB_mine']; exact d1) (hat h2) (bOB_dead'.2 d2) ((hhas0 (hli h1)).1 p1) ((hhas0 (hli h2)).1 p2))
    · exact hr.lsize _ _ _ b (hat h1) (bOB_dead'.2 h2) ((hhas0 (hli h1)).1 h3)
    · obtain ⟨i, x, h1, h2, h3⟩ := hown0 hb
      exact hr.oR b (hownc h1 h2 h3)
  refine (hmin.calls c0 w vals hr0 (by simpa using hl) (fun i x hx => ?_)).mono ?_
  · obtain ⟨u, k1, k2⟩ := hv i (bV1 (rnCV σ) x) (by rw [List.getElem?_map, hx]; rfl)
    refine ⟨u, k1, ?_⟩
    have := relV1_move (α := σ) (β := fun o => o) (n := objs0.length) hback (fun _ h => h) (x := x) (List.all_eq_true.1 hca _ (List.mem_of_getElem? hx)) k2
    rwa [bV1_id] at this
  rintro e' w' ⟨v, c', objs1, sv, rfl, hE, hr', hsv, hlen1, hcl1, hKK⟩
  rw [Bool.and_eq_true, Bool.and_eq_true] at hcl1
  obtain ⟨⟨hcs, hcb⟩, hokf⟩ := hcl1
  have hLr : L.length ≤ (objs1.map (rnX σ)).length := by simp; omega
  obtain ⟨objs2, hobjs2⟩ : ∃ o2, o2 = putN objs L (objs1.map (rnX σ)) := ⟨_, rfl⟩
  rw [← hobjs2] at hKK
  have hhit : ∀ {i : Nat} {x : Nat × OB}, objs1[i]? = some x → objs2[σ i]? = some (rnX σ x) := by
    intro i x h
    rw [hobjs2, hσ, ← hσ]
    have := putN_hit (L := L) (objs := objs) (r := objs1.map (rnX σ)) (i := i) (x := rnX σ x) hnd hlt hLr (by rw [List.getElem?_map, h]; rfl)
    rw [← hσ] at this; exact this
  have hmiss : ∀ {k : Nat}, k < objs.length → k ∉ L → objs2[k]? = objs[k]? := fun h1 h2 => by rw [hobjs2]; exact putN_miss h1 h2 hLr
  have hcase : ∀ {k : Nat} {x : Nat × OB}, objs2[k]? = some x → (∃ i y, k = σ i ∧ objs1[i]? = some y ∧ x = rnX σ y) ∨ (k < objs.length ∧ k ∉ L ∧ objs[k]? = some x) := by
    intro k x h
    rcases rnN_or (L := L) (n := objs.length) k with ⟨i, rfl⟩ | ⟨h1, h2⟩
    · rcases Nat.lt_or_ge i objs1.length with hi | hi
      · have hy := List.getElem?_eq_getElem hi
        have := hhit hy
        rw [← hσ] at h
        rw [h] at this
        exact .inl ⟨i, _, by rw [hσ], hy, by simpa using this⟩
      · have h3 := (List.getElem?_eq_some_iff.1 h).1
        rw [hobjs2, putN_len hLr, rnN_ge (by omega)] at h3
        simp at h3; omega
    · rw [hmiss h1 h2] at h
      exact .inr ⟨h1, h2, h⟩
  let c'' : Ctx := ⟨backN L objs.length c'.φ c.φ, c'.R, backN L objs.length c'.ψ c.ψ⟩
  have hφ1 : ∀ {i : Nat}, c''.φ (σ i) = c'.φ i := by intro i; rw [hσ]; exact backN_hit hnd hlt
  have hψ1 : ∀ {i : Nat}, c''.ψ (σ i) = c'.ψ i := by intro i; rw [hσ]; exact backN_hit hnd hlt
  have hφ2 : ∀ {k : Nat}, k < objs.length → k ∉ L → c''.φ k = c.φ k := fun h1 h2 => backN_miss hlt h1 h2
  have hψ2 : ∀ {k : Nat}, k < objs.length → k ∉ L → c''.ψ k = c.ψ k := fun h1 h2 => backN_miss hlt h1 h2
  have hhas1 : ∀ {i b : Nat}, c''.has (σ i) b ↔ c'.has i b := fun {i b} => has_move hφ1 hψ1
  have hhas2 : ∀ {k b : Nat}, k < objs.length → k ∉ L → (c''.has k b ↔ c.has k b) := fun h1 h2 => has_move (hφ2 h1 h2) (hψ2 h1 h2)
  have hfwd : ∀ o, o < objs1.length → MoveRef c' objs1 c'' objs2 o (σ o) := by
    intro o ho
    have hx : objs1[o]? = some objs1[o] := List.getElem?_eq_getElem ho
    have hy := hhit hx
    refine ⟨fun ver hk => ?_, fun ver hl => ?_, hφ1, hψ1⟩
    · obtain ⟨cur, b, h1, h2⟩ := hk
      rw [hx] at h1
      simp only [Option.some.injEq] at h1
      exact ⟨cur, _, by rw [hy, h1]; rfl, h2⟩
    · obtain ⟨b, h1, h2⟩ := hl
      rw [hy] at h1
      simp only [rnX, Option.some.injEq, Prod.mk.injEq] at h1
      obtain ⟨h1, h3⟩ := h1
      subst h1 h3
      exact ⟨_, hx, bOB_dead'.1 h2⟩
  have hnew : ∀ {i b : Nat} {x : Nat × OB}, objs1[i]? = some x → x.2.mine = true → c'.has i b → Own c objs b ∨ w.heap.size ≤ b := by
    intro i b x h1 h2 h3
    rcases hE.own b ⟨i, _, _, h1, h2, h3⟩ with h | h
    · obtain ⟨j, y, k1, k2, k3⟩ := hown0 h
      exact .inl (hownc k1 k2 k3)
    · exact .inr h
  have hnew0 : ∀ {i b : Nat} {x : Nat × OB}, objs1[i]? = some x → x.2.mine = true → c'.has i b → (∃ j y, objs0[j]? = some y ∧ y.2.mine = true ∧ c.has (σ j) b) ∨ w.heap.size ≤ b := by
    intro i b x h1 h2 h3
    exact (hE.own b ⟨i, _, _, h1, h2, h3⟩).imp hown0 id
  have hRd : ∀ {b : Nat}, c'.R b → c.R b ∨ (∃ j y, objs0[j]? = some y ∧ y.2.mine = true ∧ c.has (σ j) b) ∨ w.heap.size ≤ b := by
    intro b hb
    rcases hE.rdown b hb with h | h | h
    · exact .inl h
    · exact .inr (.inl (hown0 h))
    · exact .inr (.inr h)
  have hother : ∀ {k ver b : Nat} {bd : OB} {j : Nat} {y : Nat × OB}, k ∉ L → objs[k]? = some (ver, bd) → bd ≠ .dead → c.has k b → objs0[j]? = some y → y.2.mine = true → ¬ c.has (σ j) b := by
    intro k ver b bd j y h1 h2 h3 h4 h5 h6 h7
    have := hr.inj _ _ _ _ _ _ b (hat h5) (by rw [bOB_mine']; exact h6) h2 h3 h7 h4
    exact h1 (this ▸ hσm (hli h5))
  have hE' : Ext objs.length c objs w c'' objs2 w' := by
    refine ⟨hE.size, hE.tape, hE.os, hE.output, fun b hb hno => hE.keep b hb (fun h => ?_), hE.shape, fun b hb => ?_, hE.rup, fun b hb => ?_, fun o' cur b ho' h => ?_⟩
    · obtain ⟨i, x, h1, h2, h3⟩ := hown0 h
      exact hno (hownc h1 h2 h3)
    · obtain ⟨k, ver, b2, h1, h2, h3⟩ := hb
      rcases hcase h1 with ⟨i, y, rfl, h4, h5⟩ | ⟨h4, h5, h6⟩
      · simp only [rnX, Prod.mk.injEq] at h5
        exact hnew h4 (by rw [← bOB_mine' (σ := σ), ← h5.2]; exact h2) (hhas1.1 h3)
      · exact .inl (.mk' h6 h2 ((hhas2 h4 h5).1 h3))
    · rcases hRd hb with h | ⟨j, y, h1, h2, h3⟩ | h
      · exact .inl h
      · exact .inr (.inl (hownc h1 h2 h3))
      · exact .inr (.inr h)
    · by_cases hk : o' ∈ L
      · obtain ⟨i, hi, rfl⟩ := List.mem_iff_getElem.1 hk
        have hi0 : i < objs0.length := by omega
        have e1 : σ i = L[i] := by rw [hσ]; exact rnN_lt (List.getElem?_eq_getElem hi)
        have hx := List.getElem?_eq_getElem hi0
        have hy := hat hx
        rw [← e1] at h ⊢
        rw [hy] at h
        simp only [rnX, Option.some.injEq, Prod.mk.injEq] at h
        obtain ⟨rfl, rfl⟩ := h
        obtain ⟨cur', bd', g1, g2, g3⟩ := hE.refs i _ _ hi0 hx
        refine ⟨cur', _, hhit g1, g2, fun e hd => ?_⟩
        obtain ⟨m1, m2, m3⟩ := g3 e (bOB_dead'.1 hd)
        refine ⟨bOB_dead'.2 m1, ?_, fun p x hp => ?_⟩
        · rw [hφ1, m2, hφ0 hi0]
        · rw [hψ1]; exact m3 p x (by rw [hψ0 hi0]; exact hp)
      · exact ⟨cur, b, by rw [hmiss ho' hk]; exact h, Nat.le_refl _, fun _ h => ⟨h, hφ2 ho' hk, fun p x hx => by rw [hψ2 ho' hk]; exact hx⟩⟩
  refine ⟨v, c'', objs2, _, rfl, hE', ⟨fun o ver b h => ?_, fun o1 o2 v1 v2 b1 b2 b h1 d1 h2 d2 p1 p2 => ?_, hr'.rsize, fun o ver bd b h1 h2 h3 => ?_, fun b hb hR => ?_⟩, ?_, hKK⟩
  · rcases hcase h with ⟨i, y, rfl, h4, h5⟩ | ⟨h4, h5, h6⟩
    · simp only [rnX, Prod.mk.injEq] at h5
      obtain ⟨rfl, rfl⟩ := h5
      refine relOB_move (α := fun o => o) (β := σ) (n := objs1.length) hfwd (fun _ h => h) hφ1 hψ1 (List.all_eq_true.1 hcb _ (List.mem_of_getElem? h4)) ?_
      rw [bOB_id]
      exact hr'.ob i _ _ h4
    · by_cases hdead : b = .dead
      · subst hdead; exact trivial
      · refine RelOB.keep hE' (Nat.le_refl _) hr (hφ2 h4 h5) (hψ2 h4 h5) (fun k hk => hE.keep k (hr.lsize o ver b k h6 hdead hk) (fun h => ?_)) (hr.ob o ver b h6)
        obtain ⟨j, y, m1, m2, m3⟩ := hown0 h
        exact hother h5 h6 hdead hk m1 m2 m3
  · rcases hcase h1 with ⟨i1, y1, rfl, k1, k2⟩ | ⟨k1, k2, k3⟩ <;> rcases hcase h2 with ⟨i2, y2, rfl, q1, q2⟩ | ⟨q1, q2, q3⟩
    · simp only [rnX, Prod.mk.injEq] at k2 q2
      rw [hr'.inj _ _ _ _ _ _ b k1 (by rw [← bOB_mine' (σ := σ), ← k2.2]; exact d1) q1 (bOB_dead'.1 (by rw [← q2.2]; exact d2)) (hhas1.1 p1) (hhas1.1 p2)]
    · exfalso
      simp only [rnX, Prod.mk.injEq] at k2
      have p2' := (hhas2 q1 q2).1 p2
      rcases hnew0 k1 (by rw [← bOB_mine' (σ := σ), ← k2.2]; exact d1) (hhas1.1 p1) with ⟨j, y, m1, m2, m3⟩ | h
      · exact hother q2 q3 d2 p2' m1 m2 m3
      · have := hr.lsize _ _ _ _ q3 d2 p2'; omega
    · exfalso
      have p1' := (hhas2 k1 k2).1 p1
      simp only [rnX, Prod.mk.injEq] at q2
      have hlive2 : y2.2 ≠ .dead := bOB_dead'.1 (by rw [← q2.2]; exact d2)
      have hown : Own c objs b := .mk' k3 d1 p1'
      have hbs := hr.lsize _ _ _ _ k3 (OB.mine_live d1) p1'
      have hok := List.all_eq_true.1 hokf _ (List.mem_of_getElem? q1)
      have hdone : c'.R b → False := by
        intro hR
        rcases hRd hR with h | ⟨j, y, m1, m2, m3⟩ | h
        · exact hr.oR b hown h
        · exact hother k2 k3 (OB.mine_live d1) p1' m1 m2 m3
        · omega
      have hmine : y2.2.mine = true → False := by
        intro hm
        rcases hnew0 q1 hm (hhas1.1 p2) with ⟨j, y, m1, m2, m3⟩ | h
        · exact hother k2 k3 (OB.mine_live d1) p1' m1 m2 m3
        · omega
      have hob2 := hr'.ob i2 _ _ q1
      obtain ⟨vy, by2⟩ := y2
      cases by2 with
      | dead => exact hlive2 rfl
      | fro r b0 =>
        cases r with
        | true => exact hdone (hob2.2 rfl _ (hhas1.1 p2))
        | false => simp [okF, OB.mine] at hok
      | _ => exact hmine rfl
    · exact hr.inj _ _ _ _ _ _ b k3 d1 q3 d2 ((hhas2 k1 k2).1 p1) ((hhas2 q1 q2).1 p2)
  · rcases hcase h1 with ⟨i, y, rfl, k1, k2⟩ | ⟨k1, k2, k3⟩
    · simp only [rnX, Prod.mk.injEq] at k2
      exact hr'.lsize i _ _ b k1 (bOB_dead'.1 (by rw [← k2.2]; exact h2)) (hhas1.1 h3)
    · exact Nat.lt_of_lt_of_le (hr.lsize o ver bd b k3 h2 ((hhas2 k1 k2).1 h3)) hE.size
  · obtain ⟨k, ver, b2, h1, h2, h3⟩ := hb
    rcases hcase h1 with ⟨i, y, rfl, k1, k2⟩ | ⟨k1, k2, k3⟩
    · simp only [rnX, Prod.mk.injEq] at k2
      exact hr'.oR b ⟨i, _, _, k1, by rw [← bOB_mine' (σ := σ), ← k2.2]; exact h2, hhas1.1 h3⟩ hR
    · have q := (hhas2 k1 k2).1 h3
      rcases hRd hR with h | ⟨j, y, m1, m2, m3⟩ | h
      · exact hr.oR b (.mk' k3 h2 q) h
      · exact hother k2 k3 (OB.mine_live h2) q m1 m2 m3
      · have := hr.lsize _ _ _ b k3 (OB.mine_live h2) q; omega
  · have := relSV_move (α := fun o => o) (β := σ) (n := objs1.length) hfwd (fun _ h => h) (x := sv) hcs (w := w') (u := v) ?_
    · exact this
    · have e : bSV (rnCV fun o => o) sv = sv := by
        cases sv with
        | un => rfl
        | one x => simp [bSV, bV1_id]
        | tup xs =>
          have : (bV1 (rnCV fun o => o)) = id := funext fun _ => bV1_id
          simp [bSV, this]
      rw [e]; exact hsv

/-- weak_verof for two rows at once. -/
theorem weak_verof2 {n0 n : Nat} (o1 cur1 new1 o2 cur2 new2 : Nat) {env env' : List (Nat × SV)} {objs objs' : Objs}
    (hobj : objs.take (unObjs o1 cur1 0 (unObjs o2 cur2 0 objs')).length = unObjs o1 cur1 0 (unObjs o2 cur2 0 objs')) (he : envOK env (bEnv (unCV o1 cur1) (bEnv (unCV o2 cur2) env')))
    (hcl : (clEnv (unObjs o1 cur1 0 (unObjs o2 cur2 0 objs')).length (bEnv (unCV o1 cur1) (bEnv (unCV o2 cur2) env')) && clObjs (unObjs o1 cur1 0 (unObjs o2 cur2 0 objs')).length (unObjs o1 cur1 0 (unObjs o2 cur2 0 objs'))) = true)
    (hok1 : (okEnv (okuCV o1 new1) (bEnv (unCV o2 cur2) env') && okObjs o1 new1 0 (unObjs o2 cur2 0 objs')) = true) (hok2 : (okEnv (okuCV o2 new2) env' && okObjs o2 new2 0 objs') = true) (hn1 : n0 ≤ o1) (hn2 : n0 ≤ o2) (hn' : n0 ≤ (unObjs o1 cur1 0 (unObjs o2 cur2 0 objs')).length) :
    Weak n0 ⟨env, objs, n⟩ ⟨env', objs', n⟩ :=
  ((weak_of hobj he hcl hn').trans (weak_ver hok1 hn1)).trans (weak_ver hok2 hn2)

/-- weak_nilof for two rows at once. -/
theorem weak_nilof2 {n0 n : Nat} (o e1 e2 : Nat) {env env' : List (Nat × SV)} {objs t t1 : Objs} (hmid : nilObjs (o + 1) (t ++ [(0, .arr e1 [])]) = t1 ++ [(0, .arr e1 [])])
    (hobj : objs.take (nilObjs o t1).length = nilObjs o t1) (he : envOK env (bEnv (nilCV o) (bEnv (nilCV (o + 1)) env')))
    (hcl : (clEnv (nilObjs o t1).length (bEnv (nilCV o) (bEnv (nilCV (o + 1)) env')) && clObjs (nilObjs o t1).length (nilObjs o t1)) = true) (ho : t.length = o) (ho1 : t1.length = o)
    (hok1 : (okEnv (oknCV o) (bEnv (nilCV (o + 1)) env') && oknObjs o t1) = true) (hok : (okEnv (oknCV (o + 1)) env' && oknObjs (o + 1) (t ++ [(0, .arr e1 [])])) = true) (hn : n0 ≤ o) (hn' : n0 ≤ (nilObjs o t1).length) :
    Weak n0 ⟨env, objs, n⟩ ⟨env', t ++ [(0, .arr e1 [])] ++ [(0, .arr e2 [])], n⟩ := by
  have h1 := weak_nil (n0 := n0) (n := n) (e := e2) (t := t ++ [(0, .arr e1 [])]) (o := o + 1) (env' := env') (by simp [ho]) hok (by omega)
  rw [hmid] at h1
  have h2 := weak_nil (n0 := n0) (n := n) (e := e1) (t := t1) (o := o) (env' := bEnv (nilCV (o + 1)) env') ho1 hok1 hn
  exact (weak_of hobj he hcl hn').trans (h2.trans h1)

theorem bSV_id {sv : SV} : bSV (rnCV fun o => o) sv = sv := by
  cases sv with
  | un => rfl
  | one x => simp [bSV, bV1_id]
  | tup xs =>
    have : (bV1 (rnCV fun o => o)) = id := funext fun _ => bV1_id
    simp [bSV, this]

/-- At the head of a round: some of the objects, in another order. -/
theorem weak_pick' {n0 n : Nat} (L : List Nat) {env env' : List (Nat × SV)} {objs objs' : Objs} (hob : subN objs (rnN L objs.length) L objs') (he : ∀ t, getE (bEnv (rnCV (rnN L objs.length)) env') t = .un ∨ getE (bEnv (rnCV (rnN L objs.length)) env') t = getE env t)
    (hcl : (clEnv objs'.length env' && clObjs objs'.length objs') = true) (hnd : L.Nodup) (hpre : ((List.range n0).all fun i => L[i]? == some i) = true) : Weak n0 ⟨env, objs, n⟩ ⟨env', objs', n⟩ := by
  obtain ⟨hlen, hlt, hget⟩ := subN_get hob
  rw [Bool.and_eq_true] at hcl
  obtain ⟨hce, hco⟩ := hcl
  obtain ⟨σ, hσ⟩ : ∃ σ, σ = rnN L objs.length := ⟨_, rfl⟩
  rw [← hσ] at hob hget he
  have hσi : ∀ {i j : Nat}, σ i = σ j → i = j := fun h => rnN_inj hnd hlt (by rw [← hσ]; exact h)
  have hat : ∀ {i : Nat} {x : Nat × OB}, objs'[i]? = some x → objs[σ i]? = some (rnX σ x) := by
    intro i x h
    obtain ⟨o, h1, h2⟩ := hget i x h
    rw [hσ, rnN_lt h1, ← hσ]; exact h2
  have hid : ∀ i, i < n0 → σ i = i ∧ i < objs'.length := by
    intro i hi
    have h1 := List.all_eq_true.1 hpre i (List.mem_range.2 hi)
    have h2 : L[i]? = some i := by simpa using h1
    refine ⟨by rw [hσ]; exact rnN_lt h2, ?_⟩
    have := (List.getElem?_eq_some_iff.1 h2).1
    omega
  intro c a w hr
  let c0 : Ctx := ⟨fun i => if i < objs'.length then c.φ (σ i) else none, c.R, fun i => if i < objs'.length then c.ψ (σ i) else fun _ => none⟩
  have hφ0 : ∀ {i : Nat}, i < objs'.length → c0.φ i = c.φ (σ i) := fun h => by simp [c0, h]
  have hψ0 : ∀ {i : Nat}, i < objs'.length → c0.ψ i = c.ψ (σ i) := fun h => by simp [c0, h]
  have hhas0 : ∀ {i b : Nat}, i < objs'.length → (c0.has i b ↔ c.has (σ i) b) := fun h => has_move (hφ0 h) (hψ0 h)
  have hli : ∀ {i : Nat} {x : Nat × OB}, objs'[i]? = some x → i < objs'.length := fun h => (List.getElem?_eq_some_iff.1 h).1
  have hback : ∀ o, o < objs'.length → MoveRef c objs c0 objs' (σ o) o := by
    intro o ho
    have hx : objs'[o]? = some objs'[o] := List.getElem?_eq_getElem ho
    have hy := hat hx
    refine ⟨fun ver hk => ?_, fun ver hl => ?_, hφ0 ho, hψ0 ho⟩
    · obtain ⟨cur, b, h1, h2⟩ := hk
      rw [hy] at h1
      simp only [rnX, Option.some.injEq, Prod.mk.injEq] at h1
      exact ⟨_, _, hx, Nat.le_trans h2 (Nat.le_of_eq h1.1.symm)⟩
    · obtain ⟨b, h1, h2⟩ := hl
      rw [hx] at h1
      simp only [Option.some.injEq] at h1
      exact ⟨bOB (rnCV σ) b, by rw [hy, h1]; rfl, bOB_dead'.2 h2⟩
  have hown0 : ∀ {b : Nat}, Own c0 objs' b → Own c objs b := by
    rintro b ⟨o', v', bd2, h1, h2, h3⟩
    exact .mk' (hat h1) (by rw [bOB_mine']; exact h2) ((hhas0 (hli h1)).1 h3)
  have hro : RelObjs c objs w := hr.objs
  refine ⟨c0, ⟨Nat.le_refl _, rfl, rfl, rfl, fun _ _ _ => rfl, fun _ cs _ h => ⟨cs, h, rfl⟩, fun b hb => .inl (hown0 hb), fun _ h => h, fun _ h => .inl h, fun o cur bd ho h => ?_⟩,
    ⟨⟨fun o ver b h => ?_, fun o1 o2 v1 v2 b1 b2 b h1 d1 h2 d2 p1 p2 => ?_, hro.rsize, fun o ver bd b h1 h2 h3 => ?_, fun b hb => hro.oR b (hown0 hb)⟩, fun t ht => ?_, hr.size, hr.defers⟩⟩
  · obtain ⟨e1, e2⟩ := hid o ho
    have hx := List.getElem?_eq_getElem e2
    have hy := hat hx
    rw [e1] at hy
    rw [h] at hy
    simp only [Option.some.injEq, rnX, Prod.mk.injEq] at hy
    refine ⟨_, _, hx, Nat.le_of_eq hy.1, fun _ hd => ⟨by rw [hy.2]; exact bOB_dead'.2 hd, by rw [hφ0 e2, e1], fun p x hp => by rw [hψ0 e2, e1]; exact hp⟩⟩
  · have := relOB_move (α := σ) (β := fun o => o) (n := objs'.length) hback (fun _ h => h) (hφ0 (hli h)) (hψ0 (hli h)) (b := b) (List.all_eq_true.1 hco _ (List.mem_of_getElem? h)) (hro.ob _ _ _ (hat h))
    rwa [bOB_id] at this
  · exact hσi (hro.inj _ _ _ _ _ _ b (hat h1) (by rw [bOB_mine']; exact d1) (hat h2) (bOB_dead'.2 d2) ((hhas0 (hli h1)).1 p1) ((hhas0 (hli h2)).1 p2))
  · exact hro.lsize _ _ _ b (hat h1) (bOB_dead'.2 h2) ((hhas0 (hli h1)).1 h3)
  · obtain ⟨u, k1, k2⟩ := hr.env t ht
    refine ⟨u, k1, ?_⟩
    have hg : getE (bEnv (rnCV σ) env') t = bSV (rnCV σ) (getE env' t) := getE_back
    rcases he t with h1 | h1
    · rw [hg] at h1
      have : getE env' t = .un := by
        cases h2 : getE env' t with
        | un => rfl
        | one x => rw [h2] at h1; cases h1
        | tup xs => rw [h2] at h1; cases h1
      show RelSV c0 objs' w (getE env' t) u
      rw [this]; trivial
    · rw [hg] at h1
      have h3 : RelSV c objs w (bSV (rnCV σ) (getE env' t)) u := by rw [h1]; exact k2
      have := relSV_move (α := σ) (β := fun o => o) (n := objs'.length) hback (fun _ h => h) (clEnv_get hce t) h3
      rwa [bSV_id] at this

/-- weak_pick, with a row's version anew. -/
theorem weak_pick {n0 n : Nat} (L : List Nat) {env env' : List (Nat × SV)} {objs objs' : Objs} (hob : subN objs (rnN L objs.length) L objs') (he : envOK env (bEnv (rnCV (rnN L objs.length)) env'))
    (hcl : (clEnv objs'.length env' && clObjs objs'.length objs') = true) (hnd : L.Nodup) (hpre : ((List.range n0).all fun i => L[i]? == some i) = true) : Weak n0 ⟨env, objs, n⟩ ⟨env', objs', n⟩ :=
  weak_pick' L hob (envOK_get he) hcl hnd hpre

theorem weak_picks {n0 n : Nat} (L : List Nat) {env env' : List (Nat × SV)} {objs objs' : Objs} (hob : subN objs (rnN L objs.length) L objs') (he : envOKs env [] (bEnv (rnCV (rnN L objs.length)) env'))
    (hcl : (clEnv objs'.length env' && clObjs objs'.length objs') = true) (hnd : L.Nodup) (hpre : ((List.range n0).all fun i => L[i]? == some i) = true) : Weak n0 ⟨env, objs, n⟩ ⟨env', objs', n⟩ :=
  weak_pick' L hob (fun t => envOKs_get he t (by simp)) hcl hnd hpre

theorem weak_pickver {n0 n : Nat} (L : List Nat) (o cur new : Nat) {env env' : List (Nat × SV)} {objs objs' : Objs} (hob : subN objs (rnN L objs.length) L (unObjs o cur 0 objs'))
    (he : envOK env (bEnv (rnCV (rnN L objs.length)) (bEnv (unCV o cur) env')))
    (hcl : (clEnv (unObjs o cur 0 objs').length (bEnv (unCV o cur) env') && clObjs (unObjs o cur 0 objs').length (unObjs o cur 0 objs')) = true) (hnd : L.Nodup) (hpre : ((List.range n0).all fun i => L[i]? == some i) = true)
    (hok : (okEnv (okuCV o new) env' && okObjs o new 0 objs') = true) (hn : n0 ≤ o) : Weak n0 ⟨env, objs, n⟩ ⟨env', objs', n⟩ :=
  (weak_pick L hob he hcl hnd hpre).trans (weak_ver hok hn)

end Go.Proofs.Ytbmaofepmheeeaa

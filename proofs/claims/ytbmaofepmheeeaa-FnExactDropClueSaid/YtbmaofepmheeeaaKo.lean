/- Contracts on data, used at a call. -/
import Derived.Test.YtbmaofepmheeeaaKn
namespace Go.Proofs.Ytbmaofepmheeeaa
open Go Go.RowKit

def snapC (objs : Objs) : CV → DC → Prop
  | .d x, y => x = y
  | .nilsl, .list _ xs => xs = []
  | .nilsl, .v y => y = .slice none 0 0
  | .esl, .list _ xs => xs = []
  | .sl o ver e off len _, .list e' xs =>
    match objRd objs o ver with
    | some (.arr e'' ys) => e = e' ∧ e'' = e ∧ 0 < e ∧ off + len ≤ ys.length ∧ xs = (ys.drop off).take len
    | some (.box cs) => e = e' ∧ e = 1 ∧ off + len ≤ cs.length ∧ boxRow ((cs.drop off).take len) = some xs
    | _ => False
  | .gsl o ver p e off len, .list e' xs =>
    match objRd objs o ver with
    | some (.grid e0 zs) => e = e' ∧ ∃ ys, rowAt e0 zs p = some (e, ys) ∧ off = 0 ∧ len = ys.length ∧ xs = ys
    | _ => False
  | _, _ => False

theorem boxRow_get : ∀ {cs : List CV} {xs : List (List DC)}, boxRow cs = some xs → xs.length = cs.length ∧ ∀ (i : Nat) x, xs[i]? = some x → ∃ d, x = [d] ∧ cs[i]? = some (.d d)
  | [], xs, h => by obtain rfl := Option.some.inj h; exact ⟨rfl, by simp⟩
  | c :: r, xs, h => by
    unfold boxRow at h
    split at h
    · rename_i h0; cases h0
    · rename_i x r' heq
      simp only [List.cons.injEq] at heq
      obtain ⟨rfl, rfl⟩ := heq
      split at h
      · rename_i ys hys
        obtain rfl := Option.some.inj h
        obtain ⟨k1, k2⟩ := boxRow_get hys
        refine ⟨by simp [k1], fun i y hy => ?_⟩
        cases i with
        | zero => simp at hy; exact ⟨x, hy.symm, rfl⟩
        | succ i => simpa using k2 i y (by simpa using hy)
      · cases h
    · cases h

def snapCs (objs : Objs) : List CV → List DC → Prop
  | [], [] => True
  | x :: r, d :: s => snapC objs x d ∧ snapCs objs r s
  | _, _ => False

def snapVs (objs : Objs) : List V1 → List DV → Prop
  | [], [] => True
  | .c x :: r, .c d :: s => snapC objs x d ∧ snapVs objs r s
  | .agg xs :: r, .agg ds :: s => snapCs objs xs ds ∧ snapVs objs r s
  | _, _ => False

theorem Rep.of_row {w : World} {R R' : Nat → Prop} {e : Nat} {ys : List (List DC)} {us : List Value} {a : Option Addr} {cap : Nat} (hrow : RepRow w R e ys us) (hR : ∀ b, R b → R' b) (hcap : ys.length ≤ cap)
    (hcl : ∀ (p : Nat) u, us[p]? = some u → ∃ b off, a = some ⟨b, off, none⟩ ∧ R' b ∧ w.cell? ⟨b, off + p, none⟩ = some u) : Rep w R' (.list e ys) (.slice a ys.length cap) := by
  refine .list e ys a cap (fun i j => us.getD (i * e + j) undef) hcap hrow.lens ?_ ?_
  · intro i j hi hj
    have hlt : i * e + j < us.length := by
      rw [hrow.len]
      have h4 : (i + 1) * e ≤ ys.length * e := Nat.mul_le_mul_right e hi
      rw [Nat.succ_mul] at h4; omega
    obtain ⟨b, off, h1, h2, h3⟩ := hcl _ _ (List.getElem?_eq_getElem hlt)
    exact ⟨b, off, h1, h2, by rw [h3]; simp [List.getD, List.getElem?_eq_getElem hlt]⟩
  · intro i j d hd
    obtain ⟨u, h1, h2⟩ := hrow.rep i j d hd
    have : us.getD (i * e + j) undef = u := by simp [List.getD, h1]
    rw [this]
    exact h2.mono hR (fun _ _ => rfl)

theorem rep_snap {P : Program} {c : Ctx} {objs : Objs} {w : World} (hr : RelObjs c objs w) {x : CV} {d : DC} {u : Value} (h : snapC objs x d) (hx : RelCV c objs w x u) : Rep w (· < w.heap.size) d u := by
  unfold snapC at h
  split at h
  · subst h; exact Rep.mono (R := c.R) hr.rsize (fun _ _ => rfl) hx
  · subst h; obtain rfl := hx
    exact .list _ [] none 0 (fun _ _ => undef) (Nat.le_refl _) (by simp) (by simp) (by simp)
  · subst h; obtain rfl := hx; exact .v _ rfl
  · subst h; obtain ⟨a, rfl⟩ := hx
    exact .list _ [] a 0 (fun _ _ => undef) (Nat.le_refl _) (by simp) (by simp) (by simp)
  · rename_i o ver e off len cap e' xs
    split at h
    · rename_i e'' ys hob
      obtain ⟨rfl, rfl, hpos, hol, rfl⟩ := h
      obtain ⟨a, cp, us, rfl, h1, h2, _, h4⟩ := run_contentX (P := P) (x := .sl o ver e'' off len cap) (ys := (ys.drop off).take len) hr hpos (by simp [contentX, hob]) (by simp [contentOK, hob, hol]) hx
      refine Rep.of_row h2 hr.rsize h1 (fun p u hp => ?_)
      obtain ⟨b, o', k1, k2⟩ := h4 p u hp
      refine ⟨b, o', k1, ?_, k2⟩
      unfold World.cell? at k2
      split at k2
      · rename_i hh; exact (Array.getElem?_eq_some_iff.1 hh).1
      · cases k2
    · rename_i cs hob
      obtain ⟨rfl, rfl, hol, hbr⟩ := h
      obtain ⟨hob, hlive⟩ := objRd_ob hr hob
      obtain ⟨_, _, hx⟩ := hx
      obtain ⟨a, cp, rfl, h2, _, h4⟩ := hx hlive
      obtain ⟨b', base', cs', T', q1, q2, q3, q4⟩ := hob
      obtain ⟨m1, m2⟩ := boxRow_get hbr
      have hlen : xs.length = len := by rw [m1]; simp; omega
      by_cases h0 : len = 0
      · have : xs = [] := List.eq_nil_of_length_eq_zero (by omega)
        subst this h0
        exact .list _ [] a cp (fun _ _ => undef) (Nat.zero_le _) (by simp) (by simp) (by simp)
      obtain ⟨b, base, cs2, T2, g1, rfl, g3, g4⟩ := h4 (by omega)
      rw [g1] at q1
      obtain ⟨rfl, rfl⟩ : b = b' ∧ base = base' := by simpa using q1
      have hel : ∀ i, i < len → ∃ d u, xs[i]? = some [d] ∧ cs'[base + (off + i)]? = some u ∧ Rep w c.R d u := by
        intro i hi
        obtain ⟨d, hd, hcd⟩ := m2 i _ (List.getElem?_eq_getElem (by omega))
        rw [List.getElem?_take, if_pos hi, List.getElem?_drop] at hcd
        obtain ⟨u, k1, k2⟩ := q4 _ _ hcd
        exact ⟨d, u, by rw [List.getElem?_eq_getElem (by omega), hd], k1, k2⟩
      have := Rep.list (w := w) (R := (· < w.heap.size)) 1 xs (some ⟨b, base + off * 1, none⟩) cp (fun i _ => (cs'[base + (off + i)]?).getD undef) (by omega)
        (fun x hx => by obtain ⟨i, hi⟩ := List.mem_iff_getElem?.1 hx; obtain ⟨d, rfl, _⟩ := m2 i x hi; rfl)
        (fun i j hi hj => by
          obtain ⟨d, u, e1, e2, e3⟩ := hel i (by omega)
          refine ⟨b, base + off * 1, rfl, (Array.getElem?_eq_some_iff.1 q2).1, ?_⟩
          have hj0 : j = 0 := by omega
          subst hj0
          rw [cell_of q2, show base + off * 1 + (i * 1 + 0) = base + (off + i) by omega, e2]; rfl)
        (fun i j d hd => by
          have hi : i < len := by
            rcases Nat.lt_or_ge i len with h | h
            · exact h
            · rw [List.getElem?_eq_none (by omega)] at hd; cases hd
          obtain ⟨d', u, e1, e2, e3⟩ := hel i hi
          rw [e1] at hd
          have hj0 : j = 0 := by
            cases j with
            | zero => rfl
            | succ j => simp at hd
          subst hj0
          simp at hd
          subst hd
          rw [e2]
          exact e3.mono hr.rsize (fun _ _ => rfl))
      rw [hlen] at this
      exact this
    · exact h.elim
  · rename_i o ver p e off len e' xs
    split at h
    · rename_i e0 zs hob
      obtain ⟨rfl, ys, hrow, rfl, rfl, rfl⟩ := h
      obtain ⟨hob, hlive⟩ := objRd_ob hr hob
      obtain ⟨_, _, hx⟩ := hx
      obtain ⟨a, cp, rfl, h2, h4⟩ := hx hlive
      obtain ⟨b0, base0, cs0, T0, g1, g2, g3, g4, g5, _⟩ := hob
      obtain ⟨u0, r1, a', cp', hu0, k2, k3, k4⟩ := rowAt_rel g4 g5 hrow
      by_cases h0 : xs.length = 0
      · have : xs = [] := List.eq_nil_of_length_eq_zero h0
        subst this
        exact .list _ [] a cp (fun _ _ => undef) (Nat.zero_le _) (by simp) (by simp) (by simp)
      obtain ⟨b, base, q1, rfl⟩ := h4 (by omega)
      obtain ⟨b', base', cs, T', q1', q2, q3, q4, q5⟩ := k4 (by omega)
      rw [q1] at q1'
      obtain ⟨rfl, rfl⟩ : b = b' ∧ base = base' := by simpa using q1'
      refine .list _ xs _ cp (fun i j => (cs[base + (i * e + j)]?).getD undef) h2 k3 (fun i j hi hj => ?_) (fun i j d hd => ?_)
      · refine ⟨b, base + 0 * e, rfl, (Array.getElem?_eq_some_iff.1 q3).1, ?_⟩
        have hxi : xs[i]? = some xs[i] := List.getElem?_eq_getElem hi
        have hil := k3 _ (List.getElem_mem hi)
        obtain ⟨u, w1, w2⟩ := q5 i j (xs[i][j]'(by omega)) (by rw [hxi]; simp)
        rw [cell_of q3, show base + 0 * e + (i * e + j) = base + (i * e + j) by omega, w1]; rfl
      · obtain ⟨u, w1, w2⟩ := q5 i j d hd
        rw [w1]
        exact w2.mono hr.rsize (fun _ _ => rfl)
    · exact h.elim
  · exact h.elim

theorem rep_snaps {P : Program} {c : Ctx} {objs : Objs} {w : World} (hr : RelObjs c objs w) : ∀ {xs : List CV} {ds : List DC} {us : List Value}, snapCs objs xs ds → us.length = xs.length →
    (∀ (i : Nat) x, xs[i]? = some x → ∃ u, us[i]? = some u ∧ RelCV c objs w x u) → us.length = ds.length ∧ ∀ (i : Nat) d, ds[i]? = some d → ∃ u, us[i]? = some u ∧ Rep w (· < w.heap.size) d u
  | [], [], us, _, hl, _ => ⟨hl, by simp⟩
  | [], _ :: _, _, h, _, _ => h.elim
  | _ :: _, [], _, h, _, _ => h.elim
  | x :: r, d :: s, [], _, hl, _ => by simp at hl
  | x :: r, d :: s, u :: us, h, hl, hx => by
    obtain ⟨k1, k2⟩ := rep_snaps (P := P) hr h.2 (by simpa using hl) (fun i y hy => by simpa using hx (i + 1) y (by simpa using hy))
    obtain ⟨u', m1, m2⟩ := hx 0 x rfl
    obtain rfl : u = u' := by simpa using m1
    refine ⟨by simp [k1], fun i d' hd => ?_⟩
    cases i with
    | zero => simp only [List.getElem?_cons_zero, Option.some.injEq] at hd ⊢; subst hd; exact ⟨u, rfl, rep_snap (P := P) hr h.1 m2⟩
    | succ i => simpa using k2 i d' (by simpa using hd)

theorem rep_snapVs {P : Program} {c : Ctx} {objs : Objs} {w : World} (hr : RelObjs c objs w) : ∀ {xs : List V1} {ds : List DV} {us : List Value}, snapVs objs xs ds → us.length = xs.length →
    (∀ (i : Nat) x, xs[i]? = some x → ∃ u, us[i]? = some u ∧ RelV1 c objs w x u) → us.length = ds.length ∧ ∀ (i : Nat) d, ds[i]? = some d → ∃ u, us[i]? = some u ∧ RepDV w (· < w.heap.size) d u
  | [], [], us, _, hl, _ => ⟨hl, by simp⟩
  | [], _ :: _, _, h, _, _ => h.elim
  | .c _ :: _, [], _, h, _, _ => h.elim
  | .agg _ :: _, [], _, h, _, _ => h.elim
  | .c _ :: _, .agg _ :: _, _, h, _, _ => h.elim
  | .agg _ :: _, .c _ :: _, _, h, _, _ => h.elim
  | .c _ :: _, .c _ :: _, [], _, hl, _ => by simp at hl
  | .agg _ :: _, .agg _ :: _, [], _, hl, _ => by simp at hl
  | .c x :: r, .c d :: s, u :: us, h, hl, hx => by
    obtain ⟨k1, k2⟩ := rep_snapVs (P := P) hr h.2 (by simpa using hl) (fun i y hy => by simpa using hx (i + 1) y (by simpa using hy))
    obtain ⟨u', m1, m2⟩ := hx 0 _ rfl
    obtain rfl : u = u' := by simpa using m1
    refine ⟨by simp [k1], fun i d' hd => ?_⟩
    cases i with
    | zero => simp only [List.getElem?_cons_zero, Option.some.injEq] at hd ⊢; subst hd; exact ⟨u, rfl, rep_snap (P := P) hr h.1 m2⟩
    | succ i => simpa using k2 i d' (by simpa using hd)
  | .agg x :: r, .agg d :: s, u :: us, h, hl, hx => by
    obtain ⟨k1, k2⟩ := rep_snapVs (P := P) hr h.2 (by simpa using hl) (fun i y hy => by simpa using hx (i + 1) y (by simpa using hy))
    obtain ⟨u', m1, m2⟩ := hx 0 _ rfl
    obtain rfl : u = u' := by simpa using m1
    obtain ⟨vs, rfl, e2, e3⟩ := m2
    refine ⟨by simp [k1], fun i d' hd => ?_⟩
    cases i with
    | zero =>
      simp only [List.getElem?_cons_zero, Option.some.injEq] at hd
      subst hd
      obtain ⟨p1, p2⟩ := rep_snaps (P := P) (us := vs.toList) hr h.1 (by simpa using e2) (fun i x hi => by obtain ⟨u, q1, q2⟩ := e3 i x hi; exact ⟨u, by simpa using q1, q2⟩)
      exact ⟨_, rfl, vs, rfl, by simpa using p1, fun j y hy => by obtain ⟨u, q1, q2⟩ := p2 j y hy; exact ⟨u, by simpa using q1, q2⟩⟩
    | succ i => simpa using k2 i d' (by simpa using hd)

/-! What is handed back becomes objects of the caller's. -/

def unC (n : Nat) : DC → CV
  | .v x => constCV x
  | .list e xs => .sl n 0 e 0 xs.length none

def obC : DC → Objs
  | .v _ => []
  | .list e xs => [(0, .arr e xs)]

def obCs : List DC → Objs
  | [] => []
  | d :: r => obC d ++ obCs r

def unCs (n : Nat) : List DC → List CV
  | [] => []
  | d :: r => unC n d :: unCs (n + (obC d).length) r

def obVs : List DV → Objs
  | [] => []
  | .c d :: r => obC d ++ obVs r
  | .agg ds :: r => obCs ds ++ obVs r

def unVs (n : Nat) : List DV → List V1
  | [] => []
  | .c d :: r => .c (unC n d) :: unVs (n + (obC d).length) r
  | .agg ds :: r => .agg (unCs n ds) :: unVs (n + (obCs ds).length) r

def obR : DR → Objs
  | .one d => obVs [d]
  | .tup ds => obVs ds

def unR (n : Nat) : DR → SV
  | .one (.c d) => .one (.c (unC n d))
  | .one (.agg ds) => .one (.agg (unCs n ds))
  | .tup ds => .tup (unVs n ds)

/-- Two contexts that say the same of the objects from the first on. -/
structure SameAt (n : Nat) (c c' : Ctx) : Prop where
  φ : ∀ o, o < n → c'.φ o = c.φ o
  ψ : ∀ o, o < n → c'.ψ o = c.ψ o

theorem SameAt.at_new {c : Ctx} {n : Nat} {p : Option (Nat × Nat)} : SameAt n c (c.at n p) := ⟨fun _ ho => (at_other (by omega)).1, fun _ ho => (at_other (by omega)).2⟩

theorem SameAt.trans {n m : Nat} {c c' c'' : Ctx} (h : SameAt n c c') (g : SameAt m c' c'') (hm : n ≤ m) : SameAt n c c'' :=
  ⟨fun o ho => (g.φ o (by omega)).trans (h.φ o ho), fun o ho => (g.ψ o (by omega)).trans (h.ψ o ho)⟩

section more
variable {c c' : Ctx} {objs os : Objs} {w : World}

theorem live_append {o ver : Nat} (hlt : o < objs.length) : Live (objs ++ os) o ver ↔ Live objs o ver := by
  unfold Live; rw [List.getElem?_append_left hlt]

theorem known_append {o ver : Nat} (h : Known objs o ver) : Known (objs ++ os) o ver := by
  have := h.lt
  unfold Known at h ⊢; rw [List.getElem?_append_left this]; exact h

theorem ptrIs_append (hφ : SameAt objs.length c c') {o ver off : Nat} {v : Value} (h : PtrIs c objs o ver off v) : PtrIs c' (objs ++ os) o ver off v := by
  obtain ⟨h1, h2, h3⟩ := h
  refine ⟨h1, known_append h2, fun hl => ?_⟩
  rw [hφ.φ o h2.lt]
  exact h3 ((live_append h2.lt).1 hl)

theorem relCV_append (hφ : SameAt objs.length c c') (hR : c'.R = c.R) {x : CV} {v : Value} (h : RelCV c objs w x v) : RelCV c' (objs ++ os) w x v := by
  cases x with
  | d x => have h1 : Rep w c.R x v := h; rw [← hR] at h1; exact h1
  | nilsl => exact h
  | esl => exact h
  | ptr o ver off => exact ptrIs_append hφ h
  | eptr o ver e i j => exact ptrIs_append hφ h
  | ip e xs i j =>
    obtain ⟨b, off, u, h1, h2⟩ := h
    rw [← hR] at h1
    exact ⟨b, off, u, h1, h2⟩
  | sl o ver e off len cap =>
    obtain ⟨h1, h2, h3⟩ := h
    refine ⟨h1, known_append h2, fun hl => ?_⟩
    rw [hφ.φ o h2.lt]
    exact h3 ((live_append h2.lt).1 hl)
  | gsl o ver p e off len =>
    obtain ⟨h1, h2, h3⟩ := h
    refine ⟨h1, known_append h2, fun hl => ?_⟩
    rw [hφ.ψ o h2.lt]
    exact h3 ((live_append h2.lt).1 hl)
  | gptr o ver p e i j =>
    obtain ⟨h1, h2, h3⟩ := h
    refine ⟨h1, known_append h2, fun hl => ?_⟩
    rw [hφ.ψ o h2.lt]
    exact h3 ((live_append h2.lt).1 hl)
  | mp o ver =>
    obtain ⟨h1, h2, h3⟩ := h
    refine ⟨h1, known_append h2, fun hl => ?_⟩
    rw [hφ.φ o h2.lt]
    exact h3 ((live_append h2.lt).1 hl)
  | fn f caps =>
    obtain ⟨vs, h1, h2, h3⟩ := h
    refine ⟨vs, h1, h2, fun i o ver off hi => ?_⟩
    obtain ⟨u, k1, k2⟩ := h3 i o ver off hi
    exact ⟨u, k1, ptrIs_append hφ k2⟩

theorem relV1_append (hφ : SameAt objs.length c c') (hR : c'.R = c.R) {x : V1} {v : Value} (h : RelV1 c objs w x v) : RelV1 c' (objs ++ os) w x v := by
  cases x with
  | c x => exact relCV_append hφ hR h
  | agg xs =>
    obtain ⟨vs, h1, h2, h3⟩ := h
    exact ⟨vs, h1, h2, fun i x hi => by obtain ⟨u, k1, k2⟩ := h3 i x hi; exact ⟨u, k1, relCV_append hφ hR k2⟩⟩

theorem relOB_append (hφ : SameAt objs.length c c') (hR : c'.R = c.R) {o : Nat} (ho : o < objs.length) {bd : OB} (h : RelOB c objs w o bd) : RelOB c' (objs ++ os) w o bd := by
  induction bd with
  | dead => exact trivial
  | box xs =>
    obtain ⟨b, base, cs, T, h1, h2, h3, h4⟩ := h
    exact ⟨b, base, cs, T, (hφ.φ o ho).trans h1, h2, h3, fun i x hx => by obtain ⟨u, k1, k2⟩ := h4 i x hx; exact ⟨u, k1, relCV_append hφ hR k2⟩⟩
  | arr e xs =>
    rcases h with ⟨h1, h2⟩ | ⟨b, base, cs, T, h1, h2, h3, h4, h5⟩
    · exact .inl ⟨(hφ.φ o ho).trans h1, h2⟩
    · exact .inr ⟨b, base, cs, T, (hφ.φ o ho).trans h1, h2, h3, h4, fun i j d hd => by rw [hR]; exact h5 i j d hd⟩
  | grid e xs =>
    obtain ⟨b, base, cs, T, h1, h2, h3, h4, h5, h6, h7⟩ := h
    refine ⟨b, base, cs, T, (hφ.φ o ho).trans h1, h2, h3, h4, fun i j g hg => ?_, by rw [hφ.ψ o ho]; exact h6, by rw [hφ.ψ o ho]; exact h7⟩
    obtain ⟨u, k1, k2⟩ := h5 i j g hg
    refine ⟨u, k1, ?_⟩
    cases g with
    | d x => have k3 : Rep w c.R x u := k2; rw [← hR] at k3; exact k3
    | row e ys =>
      obtain ⟨a, cp, m1, m2, m3, m4⟩ := k2
      refine ⟨a, cp, m1, m2, m3, fun h0 => ?_⟩
      rw [hφ.ψ o ho, hR]
      exact m4 h0
  | map n es =>
    obtain ⟨b, base, ents, clock, h1, h2, h3, h4, h5, h6⟩ := h
    exact ⟨b, base, ents, clock, (hφ.φ o ho).trans h1, h2, h3, h4, h5, by rw [hR]; exact h6⟩
  | fro r b ih => exact ⟨ih h.1, fun hr' k hk => by rw [hR]; exact h.2 hr' k (by unfold Ctx.has at hk ⊢; rw [← hφ.φ o ho, ← hφ.ψ o ho]; exact hk)⟩

end more

/-- A row that nobody owns becomes an object. -/
theorem adopt {c : Ctx} {objs : Objs} {w : World} {bd : OB} (hr : RelObjs c objs w) (p : Option (Nat × Nat)) (hp : ∀ b base, p = some (b, base) → (∀ o ver bd, objs[o]? = some (ver, bd) → bd ≠ .dead → ¬ c.has o b) ∧ ¬ c.R b ∧ b < w.heap.size)
    (hn : RelOB (c.at objs.length p) (objs ++ [(0, bd)]) w objs.length bd) : RelObjs (c.at objs.length p) (objs ++ [(0, bd)]) w := by
  -- only what is said of the objects is used, not of the blocks before
  have hcase : ∀ {o v b}, (objs ++ [(0, bd)])[o]? = some (v, b) → (o < objs.length ∧ objs[o]? = some (v, b)) ∨ (o = objs.length ∧ b = bd) := by
    intro o v b h
    by_cases e : o < objs.length
    · rw [List.getElem?_append_left e] at h
      exact .inl ⟨e, h⟩
    · have hlt := (List.getElem?_eq_some_iff.1 h).1
      simp at hlt
      obtain rfl : o = objs.length := by omega
      simp at h
      exact .inr ⟨rfl, h.2.symm⟩
  have hS : SameAt objs.length c (c.at objs.length p) := .at_new
  refine ⟨?_, ?_, hr.rsize, ?_, ?_⟩
  · intro o v b h
    rcases hcase h with ⟨h1, h2⟩ | ⟨rfl, rfl⟩
    · exact relOB_append hS rfl h1 (hr.ob o v b h2)
    · exact hn
  · intro o1 o2 v1 v2 b1 b2 b h1 h2 h3 h4 h5 h6
    rcases hcase h1 with ⟨k1, k2⟩ | ⟨rfl, _⟩ <;> rcases hcase h3 with ⟨m1, m2⟩ | ⟨rfl, _⟩
    · exact hr.inj o1 o2 v1 v2 b1 b2 b k2 h2 m2 h4 ((has_at_other (by omega)).1 h5) ((has_at_other (by omega)).1 h6)
    · obtain ⟨base, hb⟩ := has_at_self.1 h6
      exact ((hp b base hb).1 o1 v1 b1 k2 (OB.mine_live h2) ((has_at_other (by omega)).1 h5)).elim
    · obtain ⟨base, hb⟩ := has_at_self.1 h5
      exact ((hp b base hb).1 o2 v2 b2 m2 h4 ((has_at_other (by omega)).1 h6)).elim
    · rfl
  · intro o v b k h1 h2 h3
    rcases hcase h1 with ⟨k1, k2⟩ | ⟨rfl, _⟩
    · exact hr.lsize o v b k k2 h2 ((has_at_other (by omega)).1 h3)
    · obtain ⟨base, hb⟩ := has_at_self.1 h3
      exact (hp k base hb).2.2
  · intro b hb
    rcases own_append hb with h | ⟨base, h⟩
    · exact hr.oR b h
    · exact (hp b base h).2.1

/-- What holds of a world after objects have been added. -/
structure Added (c : Ctx) (objs : Objs) (w : World) (bs : List Nat) (c' : Ctx) (os : Objs) : Prop where
  rel : RelObjs c' (objs ++ os) w
  φ : SameAt objs.length c c'
  R : c'.R = c.R
  own : ∀ b, Own c' (objs ++ os) b → Own c objs b ∨ b ∈ bs
  live : ∀ o ver bd b, (objs ++ os)[o]? = some (ver, bd) → bd ≠ .dead → c'.has o b → (∃ ver bd, objs[o]? = some (ver, bd) ∧ bd ≠ .dead ∧ c.has o b) ∨ b ∈ bs

/-- No object that is there has block b. -/
def Free (c : Ctx) (objs : Objs) (b : Nat) : Prop := ∀ o ver bd, objs[o]? = some (ver, bd) → bd ≠ .dead → ¬ c.has o b

theorem free_append {c : Ctx} {objs : Objs} {b : Nat} {x : Nat × OB} {p : Option (Nat × Nat)} (h : Free c objs b) (hp : ∀ base, p ≠ some (b, base)) : Free (c.at objs.length p) (objs ++ [x]) b := by
  intro o ver bd h1 h2 h3
  by_cases e : o < objs.length
  · rw [List.getElem?_append_left e] at h1
    exact h o ver bd h1 h2 ((has_at_other (by omega)).1 h3)
  · have hlt := (List.getElem?_eq_some_iff.1 h1).1
    simp at hlt
    obtain rfl : o = objs.length := by omega
    obtain ⟨base, hb⟩ := has_at_self.1 h3
    exact hp base hb

theorem live_append' {c : Ctx} {objs : Objs} {x : Nat × OB} {p : Option (Nat × Nat)} {o ver b : Nat} {bd : OB} (h1 : (objs ++ [x])[o]? = some (ver, bd)) (h2 : bd ≠ .dead) (h3 : (c.at objs.length p).has o b) :
    (∃ ver bd, objs[o]? = some (ver, bd) ∧ bd ≠ .dead ∧ c.has o b) ∨ (o = objs.length ∧ ∃ base, p = some (b, base)) := by
  by_cases e : o < objs.length
  · rw [List.getElem?_append_left e] at h1
    exact .inl ⟨ver, bd, h1, h2, (has_at_other (by omega)).1 h3⟩
  · have hlt := (List.getElem?_eq_some_iff.1 h1).1
    simp at hlt
    obtain rfl : o = objs.length := by omega
    exact .inr ⟨rfl, has_at_self.1 h3⟩

theorem adopt_cells {w : World} {B : Nat} {ds : List DC} {us : List Value} {bs : List Nat} (hf : FreshCells B w ds us bs) : ∀ (c : Ctx) (objs : Objs), RelObjs c objs w → (∀ b ∈ bs, Free c objs b ∧ ¬ c.R b) →
    ∃ c', Added c objs w bs c' (obCs ds) ∧ us.length = (unCs objs.length ds).length ∧ ∀ (i : Nat) x, (unCs objs.length ds)[i]? = some x → ∃ u, us[i]? = some u ∧ RelCV c' (objs ++ obCs ds) w x u := by
  induction hf with
  | nil => intro c objs hr _; exact ⟨c, ⟨by simpa [obCs] using hr, ⟨fun _ _ => rfl, fun _ _ => rfl⟩, rfl, fun b hb => .inl (by simpa [obCs] using hb), fun o ver bd b h1 h2 h3 => .inl ⟨ver, bd, by simpa [obCs] using h1, h2, h3⟩⟩, rfl, by simp [unCs]⟩
  | v x h1 hf ih =>
    rename_i ds us bs
    intro c objs hr hb
    obtain ⟨c', hA, hl, hx⟩ := ih c objs hr hb
    refine ⟨c', hA, by simpa [unCs, obC] using hl, fun i y hy => ?_⟩
    cases i with
    | zero => simp only [unCs, unC, List.getElem?_cons_zero, Option.some.injEq] at hy; subst hy; exact ⟨x, rfl, rel_constCV _ _ _ _ h1⟩
    | succ i => simpa [unCs, obC, obCs] using hx i y (by simpa [unCs, obC] using hy)
  | none e a hf ih =>
    rename_i ds us bs
    intro c objs hr hb
    have hr1 := adopt (bd := .arr e []) hr none (fun _ _ h => by cases h) (.inl ⟨by simp [Ctx.at], rfl⟩)
    obtain ⟨c', hA, hl, hx⟩ := ih (c.at objs.length none) (objs ++ [(0, .arr e [])]) hr1 (fun b h => ⟨free_append (hb b h).1 (fun _ e => by cases e), (hb b h).2⟩)
    have he : objs ++ [(0, .arr e [])] ++ obCs ds = objs ++ obCs (.list e [] :: ds) := by simp [obCs, obC]
    rw [he] at hx
    refine ⟨c', ⟨he ▸ hA.rel, SameAt.at_new.trans hA.φ (by simp), hA.R, fun b ho => ?_, fun o ver bd b h1 h2 h3 => (hA.live o ver bd b (he ▸ h1) h2 h3).elim (fun ⟨v, x, k1, k2, k3⟩ => (live_append' k1 k2 k3).elim .inl (fun ⟨_, base, h⟩ => by cases h)) .inr⟩, by simpa [unCs, obC] using hl, fun i y hy => ?_⟩
    · rcases hA.own b (he ▸ ho) with h | h
      · rcases own_append h with h2 | ⟨base, h2⟩
        · exact .inl h2
        · cases h2
      · exact .inr h
    · cases i with
      | zero =>
        simp only [unCs, unC, List.getElem?_cons_zero, Option.some.injEq] at hy
        subst hy
        refine ⟨_, rfl, rfl, ⟨0, .arr e [], by rw [← he]; simp, Nat.le_refl _⟩, fun _ => ⟨a, 0, rfl, Nat.le_refl _, by simp [capOk], fun h => by omega⟩⟩
      | succ i => simpa using hx i y (by simpa [unCs, obC] using hy)
  | row e xs b off cap cs T hbn hB hh hc hs hl hrr hf ih =>
    rename_i ds us bs
    intro c objs hr hb
    have hbb := hb b (List.mem_cons_self ..)
    have hlt : b < w.heap.size := (Array.getElem?_eq_some_iff.1 hh).1
    have hm : xs.length * e ≤ cap * e := Nat.mul_le_mul_right e hc
    have hr1 := adopt (bd := .arr e xs) hr (some (b, off)) (fun b' base h => by simp only [Option.some.injEq, Prod.mk.injEq] at h; obtain ⟨rfl, rfl⟩ := h; exact ⟨hbb.1, hbb.2, hlt⟩)
      (.inr ⟨b, off, cs, T, by simp [Ctx.at], hh, by omega, hl, fun i j d hd => by obtain ⟨u, k1, k2⟩ := hrr i j d hd; exact ⟨u, k1, k2.mono (fun _ h => h.elim) (fun _ h => h.elim)⟩⟩)
    obtain ⟨c', hA, hlen, hx⟩ := ih (c.at objs.length (some (b, off))) (objs ++ [(0, .arr e xs)]) hr1 (fun b' h => ⟨free_append (hb b' (List.mem_cons_of_mem _ h)).1 (fun base h2 => by
      simp only [Option.some.injEq, Prod.mk.injEq] at h2
      exact hbn (h2.1 ▸ h)), (hb b' (List.mem_cons_of_mem _ h)).2⟩)
    have he : objs ++ [(0, .arr e xs)] ++ obCs ds = objs ++ obCs (.list e xs :: ds) := by simp [obCs, obC]
    rw [he] at hx
    refine ⟨c', ⟨he ▸ hA.rel, SameAt.at_new.trans hA.φ (by simp), hA.R, fun b' ho => ?_, fun o ver bd b' h1 h2 h3 => (hA.live o ver bd b' (he ▸ h1) h2 h3).elim
      (fun ⟨v, x, k1, k2, k3⟩ => (live_append' k1 k2 k3).elim .inl (fun ⟨_, base, h⟩ => .inr (by simp only [Option.some.injEq, Prod.mk.injEq] at h; rw [← h.1]; exact List.mem_cons_self ..))) (fun h => .inr (List.mem_cons_of_mem _ h))⟩, by simpa [unCs, obC] using hlen, fun i y hy => ?_⟩
    · rcases hA.own b' (he ▸ ho) with h | h
      · rcases own_append h with h2 | ⟨base, h2⟩
        · exact .inl h2
        · simp only [Option.some.injEq, Prod.mk.injEq] at h2
          obtain ⟨rfl, _⟩ := h2
          exact .inr (List.mem_cons_self ..)
      · exact .inr (List.mem_cons_of_mem _ h)
    · cases i with
      | zero =>
        simp only [unCs, unC, List.getElem?_cons_zero, Option.some.injEq] at hy
        subst hy
        refine ⟨_, rfl, rfl, ⟨0, .arr e xs, by rw [← he]; simp, Nat.le_refl _⟩, fun _ => ⟨some ⟨b, off, Option.none⟩, cap, rfl, hc, by simp [capOk], fun _ => ⟨b, off, cs, T, ?_, by simp, hh, by simpa using hs⟩⟩⟩
        rw [hA.φ.φ objs.length (by simp)]
        simp [Ctx.at]
      | succ i => simpa using hx i y (by simpa [unCs, obC] using hy)

theorem adopt_vs {w : World} {B : Nat} {ds : List DV} {us : List Value} {bs : List Nat} (hf : FreshVs B w ds us bs) : ∀ (c : Ctx) (objs : Objs), RelObjs c objs w → (∀ b ∈ bs, Free c objs b ∧ ¬ c.R b) →
    ∃ c', Added c objs w bs c' (obVs ds) ∧ us.length = (unVs objs.length ds).length ∧ ∀ (i : Nat) x, (unVs objs.length ds)[i]? = some x → ∃ u, us[i]? = some u ∧ RelV1 c' (objs ++ obVs ds) w x u := by
  induction hf with
  | nil => intro c objs hr _; exact ⟨c, ⟨by simpa [obVs] using hr, ⟨fun _ _ => rfl, fun _ _ => rfl⟩, rfl, fun b hb => .inl (by simpa [obVs] using hb), fun o ver bd b h1 h2 h3 => .inl ⟨ver, bd, by simpa [obVs] using h1, h2, h3⟩⟩, rfl, by simp [unVs]⟩
  | c hfc hf hd ih =>
    rename_i d u bs ds us cs
    intro c objs hr hb
    obtain ⟨c1, hA1, hl1, hx1⟩ := adopt_cells hfc c objs hr (fun b h => hb b (List.mem_append.2 (.inl h)))
    have e1 : obCs [d] = obC d := by simp [obCs]
    rw [e1] at hA1 hx1
    obtain ⟨c2, hA2, hl2, hx2⟩ := ih c1 (objs ++ obC d) hA1.rel (fun b h => ⟨fun o ver bd h1 h2 h3 => by
      rcases hA1.live o ver bd b h1 h2 h3 with ⟨v, x, k1, k2, k3⟩ | h2
      · exact (hb b (List.mem_append.2 (.inr h))).1 _ v x k1 k2 k3
      · exact hd b h2 h, by rw [hA1.R]; exact (hb b (List.mem_append.2 (.inr h))).2⟩)
    have he : objs ++ obC d ++ obVs ds = objs ++ obVs (.c d :: ds) := by simp [obVs]
    refine ⟨c2, ⟨he ▸ hA2.rel, hA1.φ.trans hA2.φ (by simp), hA2.R.trans hA1.R, fun b ho => ?_, fun o ver bd b h1 h2 h3 => (hA2.live o ver bd b (he ▸ h1) h2 h3).elim
      (fun ⟨v, x, k1, k2, k3⟩ => (hA1.live o v x b k1 k2 k3).imp id (fun h => List.mem_append.2 (.inl h))) (fun h => .inr (List.mem_append.2 (.inr h)))⟩, by simpa [unVs] using hl2, fun i y hy => ?_⟩
    · rcases hA2.own b (he ▸ ho) with h | h
      · exact (hA1.own b h).imp id (fun h => List.mem_append.2 (.inl h))
      · exact .inr (List.mem_append.2 (.inr h))
    · cases i with
      | zero =>
        simp only [unVs, List.getElem?_cons_zero, Option.some.injEq] at hy
        subst hy
        obtain ⟨u', m1, m2⟩ := hx1 0 (unC objs.length d) (by simp [unCs])
        obtain rfl : u = u' := by simpa using m1
        exact ⟨u, rfl, by rw [← he]; exact relCV_append hA2.φ hA2.R m2⟩
      | succ i => rw [← he]; simpa using hx2 i y (by simpa [unVs] using hy)
  | agg hfc hf hd ih =>
    rename_i xs vs bs ds us cs
    intro c objs hr hb
    obtain ⟨c1, hA1, hl1, hx1⟩ := adopt_cells hfc c objs hr (fun b h => hb b (List.mem_append.2 (.inl h)))
    obtain ⟨c2, hA2, hl2, hx2⟩ := ih c1 (objs ++ obCs xs) hA1.rel (fun b h => ⟨fun o ver bd h1 h2 h3 => by
      rcases hA1.live o ver bd b h1 h2 h3 with ⟨v, x, k1, k2, k3⟩ | h2
      · exact (hb b (List.mem_append.2 (.inr h))).1 _ v x k1 k2 k3
      · exact hd b h2 h, by rw [hA1.R]; exact (hb b (List.mem_append.2 (.inr h))).2⟩)
    have he : objs ++ obCs xs ++ obVs ds = objs ++ obVs (.agg xs :: ds) := by simp [obVs]
    refine ⟨c2, ⟨he ▸ hA2.rel, hA1.φ.trans hA2.φ (by simp), hA2.R.trans hA1.R, fun b ho => ?_, fun o ver bd b h1 h2 h3 => (hA2.live o ver bd b (he ▸ h1) h2 h3).elim
      (fun ⟨v, x, k1, k2, k3⟩ => (hA1.live o v x b k1 k2 k3).imp id (fun h => List.mem_append.2 (.inl h))) (fun h => .inr (List.mem_append.2 (.inr h)))⟩, by simpa [unVs] using hl2, fun i y hy => ?_⟩
    · rcases hA2.own b (he ▸ ho) with h | h
      · exact (hA1.own b h).imp id (fun h => List.mem_append.2 (.inl h))
      · exact .inr (List.mem_append.2 (.inr h))
    · cases i with
      | zero =>
        simp only [unVs, List.getElem?_cons_zero, Option.some.injEq] at hy
        subst hy
        refine ⟨_, rfl, vs, rfl, by simpa using hl1, fun j z hz => ?_⟩
        obtain ⟨u', m1, m2⟩ := hx1 j z hz
        exact ⟨u', by simpa using m1, by rw [← he]; exact relCV_append hA2.φ hA2.R m2⟩
      | succ i => rw [← he]; simpa using hx2 i y (by simpa [unVs] using hy)

/-- A CALL, by a contract on data. -/
theorem callP_fn {P : Program} {f : FuncId} {args : List DV} {res : DR} (h : Fn P f args res) {vs : List V1} {objs : Objs} {K : SV → Objs → Prop} (hs : snapVs objs vs args) (hk : K (unR objs.length res) (objs ++ obR res)) : CallP P f vs objs K := by
  obtain ⟨hent, hcall⟩ := h
  refine ⟨hent, fun c w vals hr hl hv => ?_⟩
  obtain ⟨k1, k2⟩ := rep_snapVs (P := P) (us := vals.toList) hr hs (by simpa using hl) (fun i x hx => by obtain ⟨u, m1, m2⟩ := hv i x hx; exact ⟨u, by simpa using m1, m2⟩)
  refine (hcall w vals (by simpa using k1) (fun i x hx => by obtain ⟨u, m1, m2⟩ := k2 i x hx; exact ⟨u, by simpa using m1, m2⟩)).mono ?_
  rintro e w' ⟨v, rfl, hb, hf⟩
  have hE0 : Ext objs.length c objs w c objs w' := by
    refine ⟨hb.size, hb.tape, hb.os, hb.output, fun b h _ => hb.block b h, fun b cs T h => ⟨cs, (hb.block b (Array.getElem?_eq_some_iff.1 h).1).trans h, rfl⟩, fun _ h => .inl h, fun _ h => h, fun _ h => .inl h, fun _ cur bd _ h => ⟨cur, bd, h, Nat.le_refl _, fun _ h => ⟨h, rfl, fun _ _ h => h⟩⟩⟩
  have hr' : RelObjs c objs w' := by
    refine ⟨fun o ver bd h => ?_, hr.inj, fun b h => Nat.lt_of_lt_of_le (hr.rsize b h) hb.size, fun o ver bd b h1 h2 h3 => Nat.lt_of_lt_of_le (hr.lsize o ver bd b h1 h2 h3) hb.size, hr.oR⟩
    by_cases hdead : bd = .dead
    · subst hdead; exact trivial
    · exact RelOB.keep hE0 (Nat.le_refl _) hr rfl rfl (fun b hp => hb.block b (hr.lsize o ver bd b h hdead hp)) (hr.ob o ver bd h)
  have fin : ∀ {ds : List DV} {us : List Value} {bs : List Nat}, FreshVs w.heap.size w' ds us bs → (∀ b ∈ bs, w.heap.size ≤ b) → ∃ c', Ext objs.length c objs w c' (objs ++ obVs ds) w' ∧ RelObjs c' (objs ++ obVs ds) w' ∧ us.length = (unVs objs.length ds).length ∧
      ∀ (i : Nat) x, (unVs objs.length ds)[i]? = some x → ∃ u, us[i]? = some u ∧ RelV1 c' (objs ++ obVs ds) w' x u := by
    intro ds us bs hf hbs
    obtain ⟨c', hA, hl', hx⟩ := adopt_vs hf c objs hr' (fun b h => ⟨fun o ver bd h1 h2 h3 => by have := hr.lsize o ver bd b h1 h2 h3; have := hbs b h; omega, fun hR => by have := hr.rsize b hR; have := hbs b h; omega⟩)
    refine ⟨c', ⟨hE0.size, hE0.tape, hE0.os, hE0.output, hE0.keep, hE0.shape, fun b h => (hA.own b h).imp id (hbs b), fun b h => by rw [hA.R]; exact h, fun b h => by rw [hA.R] at h; exact .inl h, fun o cur bd ho h => ⟨cur, bd, by rw [List.getElem?_append_left ho]; exact h, Nat.le_refl _, fun _ h => ⟨h, hA.φ.φ o ho, fun p x hx => by rw [hA.φ.ψ o ho]; exact hx⟩⟩⟩, hA.rel, hl', hx⟩
  have hcells : ∀ {ds us bs}, FreshCells w.heap.size w' ds us bs → ∀ b ∈ bs, w.heap.size ≤ b := by
    intro ds us bs h
    induction h with
    | nil => intro b hb; cases hb
    | v _ _ _ ih => exact ih
    | none _ _ _ ih => exact ih
    | row e xs b off cap cs T hbn hB hh hc hs hl hrr hf ih =>
      intro b' hb'
      rcases List.mem_cons.1 hb' with rfl | h
      · exact hB
      · exact ih b' h
  have hblocks : ∀ {ds us bs}, FreshVs w.heap.size w' ds us bs → ∀ b ∈ bs, w.heap.size ≤ b := by
    intro ds us bs h
    induction h with
    | nil => intro b hb; cases hb
    | c h1 _ _ ih => intro b hb'; exact (List.mem_append.1 hb').elim (hcells h1 b) (ih b)
    | agg h1 _ _ ih => intro b hb'; exact (List.mem_append.1 hb').elim (hcells h1 b) (ih b)
  cases res with
  | one d =>
    obtain ⟨bs, hf⟩ := hf
    obtain ⟨c', hE, hrr, hl', hx⟩ := fin hf (hblocks hf)
    refine ⟨v, c', _, unR objs.length (.one d), rfl, ⟨hb.size, hb.block⟩, hE, hrr, ?_, hk⟩
    cases d with
    | c d =>
      obtain ⟨u, m1, m2⟩ := hx 0 _ rfl
      obtain rfl : v = u := by simpa using m1
      exact m2
    | agg ds =>
      obtain ⟨u, m1, m2⟩ := hx 0 _ rfl
      obtain rfl : v = u := by simpa using m1
      exact m2
  | tup ds =>
    obtain ⟨us, bs, rfl, hf⟩ := hf
    obtain ⟨c', hE, hrr, hl', hx⟩ := fin hf (hblocks hf)
    exact ⟨_, c', _, unR objs.length (.tup ds), rfl, ⟨hb.size, hb.block⟩, hE, hrr, ⟨us, rfl, by simpa using hl', fun i x hi => by obtain ⟨u, m1, m2⟩ := hx i x hi; exact ⟨u, by simpa using m1, m2⟩⟩, hk⟩

theorem call_fn {P : Program} {f : FuncId} {args : List DV} {res : DR} (h : Fn P f args res) {vs : List V1} {objs : Objs} {K : SV → Objs → Prop} (hs : snapVs objs vs args) (hk : K (unR objs.length res) (objs ++ obR res)) : CallX P f vs objs K :=
  (callP_fn h hs hk).toX

theorem call_sn {P : Program} {f : FuncId} {args : List DV} {res : DR} {vs : List V1} {objs : Objs} {K : SV → Objs → Prop} (hs : snapVs objs vs args) (h : Fn P f args res) (hk : K (unR objs.length res) (objs ++ obR res)) : CallX P f vs objs K := call_fn h hs hk

theorem callP_sn {P : Program} {f : FuncId} {args : List DV} {res : DR} {vs : List V1} {objs : Objs} {K : SV → Objs → Prop} (hs : snapVs objs vs args) (h : Fn P f args res) (hk : K (unR objs.length res) (objs ++ obR res)) : CallP P f vs objs K := callP_fn h hs hk

/-- A call, by its callee's own text. -/
theorem call_body {G : Gen} {f : FuncId} {fn : Func} {cd : Code} {args : List V1} {objs : Objs} {K : SV → Objs → Prop} (hf : G.P.funcs[f]? = some fn) (hb : fn.body = some cd) (hname : (fn.name != "runtime.NumGoroutine") = true)
    (hn : args.length ≤ fn.ntmps) (h : bodyX G fn cd args objs K) : CallX G.P f args objs K := callX_of_body hf hb hname hn h

theorem fn_of_body {G : Gen} {f : FuncId} {fn : Func} {cd : Code} {args : List DV} {res : DR} (hf : G.P.funcs[f]? = some fn) (hb : fn.body = some cd) (hname : (fn.name != "runtime.NumGoroutine") = true)
    (hn : args.length ≤ fn.ntmps) (h : bodyX G fn cd (args.map DV.toV1) [] (fun sv objs => resOK objs sv res)) : Fn G.P f args res :=
  fn_of_call (callX_of_body hf hb hname (by simpa using hn) h)

theorem snap_row {α : Type} {xs : List α} {n : Nat} (h : n = xs.length) : xs = (xs.drop 0).take n := by subst h; simp

theorem snapRow {α : Type} {xs : List α} : xs = (xs.drop 0).take xs.length := by simp

abbrev dI (n : Int) : DC := .v (.int .i64 n)
abbrev dB (b : Bool) : DC := .v (.bool b)
abbrev aI (n : Int) : DV := .c (dI n)
abbrev aB (b : Bool) : DV := .c (dB b)


section
variable {objs : Objs} {x y : DC} {a : CV} {d : DC} {r : List CV} {s : List DC} {e : Nat} {xs : List (List DC)} {vr : List V1} {vs : List DV}
theorem snapC_d : snapC objs (.d x) y = (x = y) := rfl
theorem snapC_nilsl : snapC objs .nilsl (.list e xs) = (xs = []) := rfl
theorem snapC_esl : snapC objs .esl (.list e xs) = (xs = []) := rfl
theorem snapC_sl {o ver e' off len : Nat} {cap : Option Nat} : snapC objs (.sl o ver e' off len cap) (.list e xs) = (match objRd objs o ver with
    | some (.arr e'' ys) => e' = e ∧ e'' = e' ∧ 0 < e' ∧ off + len ≤ ys.length ∧ xs = (ys.drop off).take len
    | some (.box cs) => e' = e ∧ e' = 1 ∧ off + len ≤ cs.length ∧ boxRow ((cs.drop off).take len) = some xs
    | _ => False) := rfl
theorem snapCs_nil : snapCs objs [] [] = True := rfl
theorem snapCs_cons : snapCs objs (a :: r) (d :: s) = (snapC objs a d ∧ snapCs objs r s) := rfl
theorem snapVs_nil : snapVs objs [] [] = True := rfl
theorem snapVs_c : snapVs objs (.c a :: vr) (.c d :: vs) = (snapC objs a d ∧ snapVs objs vr vs) := rfl
theorem snapVs_agg : snapVs objs (.agg r :: vr) (.agg s :: vs) = (snapCs objs r s ∧ snapVs objs vr vs) := rfl
end

end Go.Proofs.Ytbmaofepmheeeaa

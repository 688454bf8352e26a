/- At the head of a round: versions anew; nil as an empty row of one's own. -/
import Derived.Test.YtmfdkjjhdjkgpaaQZe
namespace Go.Proofs.Ytmfdkjjhdjkgpaa
open Go Go.RowKit
set_option linter.unusedSimpArgs false

section back
variable (g : CV → CV) (ok : CV → Bool)

def bV1 : V1 → V1
  | .c x => .c (g x)
  | .agg xs => .agg (xs.map g)

def bSV : SV → SV
  | .un => .un
  | .one x => .one (bV1 g x)
  | .tup xs => .tup (xs.map (bV1 g))

def bEnv : List (Nat × SV) → List (Nat × SV)
  | [] => []
  | (t, x) :: r => (t, bSV g x) :: bEnv r

def bOB : OB → OB
  | .box cs => .box (cs.map g)
  | .fro r b => .fro r (bOB b)
  | x => x

def okV1 : V1 → Bool
  | .c x => ok x
  | .agg xs => xs.all ok

def okSV : SV → Bool
  | .un => true
  | .one x => okV1 ok x
  | .tup xs => xs.all (okV1 ok)

def okEnv : List (Nat × SV) → Bool
  | [] => true
  | (_, x) :: r => okSV ok x && okEnv r

def okOB : OB → Bool
  | .box cs => cs.all ok
  | .fro _ b => okOB b
  | _ => true

theorem bOB_mine (b : OB) : (bOB g b).mine = b.mine := by cases b <;> rfl

theorem bOB_dead {b : OB} (h : b ≠ .dead) : bOB g b ≠ .dead := by cases b <;> simp [bOB] at h ⊢

theorem getE_back {g : CV → CV} {t : Nat} : ∀ {env : List (Nat × SV)}, getE (bEnv g env) t = bSV g (getE env t)
  | [] => rfl
  | (k, v) :: r => by
    unfold bEnv getE
    by_cases e : t = k
    · rw [if_pos e, if_pos e]
    · rw [if_neg e, if_neg e]; exact getE_back

theorem okEnv_get {ok : CV → Bool} : ∀ {env : List (Nat × SV)}, okEnv ok env = true → ∀ t, okSV ok (getE env t) = true
  | [], _, t => rfl
  | (k, v) :: r, h, t => by
    simp only [okEnv, Bool.and_eq_true] at h
    unfold getE
    by_cases e : t = k
    · rw [if_pos e]; exact h.1
    · rw [if_neg e]; exact okEnv_get h.2 t

variable {g ok} {c c' : Ctx} {objs objs' : Objs} {w : World}

theorem relV1_back (hc : ∀ x u, ok x = true → RelCV c objs w (g x) u → RelCV c' objs' w x u) {x : V1} {u : Value} (h1 : okV1 ok x = true) (h : RelV1 c objs w (bV1 g x) u) : RelV1 c' objs' w x u := by
  cases x with
  | c x => exact hc x u h1 h
  | agg xs =>
    obtain ⟨vs, k1, k2, k3⟩ := h
    refine ⟨vs, k1, by simpa using k2, fun i x hi => ?_⟩
    obtain ⟨u, m1, m2⟩ := k3 i (g x) (by rw [List.getElem?_map, hi]; rfl)
    exact ⟨u, m1, hc x u (List.all_eq_true.1 h1 _ (List.mem_of_getElem? hi)) m2⟩

theorem relSV_back (hc : ∀ x u, ok x = true → RelCV c objs w (g x) u → RelCV c' objs' w x u) {x : SV} {u : Value} (h1 : okSV ok x = true) (h : RelSV c objs w (bSV g x) u) : RelSV c' objs' w x u := by
  cases x with
  | un => trivial
  | one x => exact relV1_back hc h1 h
  | tup xs =>
    obtain ⟨vs, k1, k2, k3⟩ := h
    refine ⟨vs, k1, by simpa using k2, fun i x hi => ?_⟩
    obtain ⟨u, m1, m2⟩ := k3 i (bV1 g x) (by rw [List.getElem?_map, hi]; rfl)
    exact ⟨u, m1, relV1_back hc (List.all_eq_true.1 h1 _ (List.mem_of_getElem? hi)) m2⟩

theorem relOB_back (hc : ∀ x u, ok x = true → RelCV c objs w (g x) u → RelCV c' objs' w x u) {k : Nat} (hφ : c'.φ k = c.φ k) (hψ : c'.ψ k = c.ψ k) (hR : c'.R = c.R) {b : OB} (h1 : okOB ok b = true) (h : RelOB c objs w k (bOB g b)) : RelOB c' objs' w k b := by
  induction b with
  | dead => trivial
  | box cs =>
    obtain ⟨b, base, cs0, T, k1, k2, k3, k4⟩ := h
    refine ⟨b, base, cs0, T, by rw [hφ]; exact k1, k2, by simpa using k3, fun i x hi => ?_⟩
    obtain ⟨u, m1, m2⟩ := k4 i (g x) (by rw [List.getElem?_map, hi]; rfl)
    exact ⟨u, m1, hc x u (List.all_eq_true.1 h1 _ (List.mem_of_getElem? hi)) m2⟩
  | arr e xs => unfold RelOB at h ⊢; rw [hφ, hR]; exact h
  | grid e xs =>
    have hg : ∀ p gc u, RelGC c w k p gc u → RelGC c' w k p gc u := by
      intro p gc u hgc
      cases gc with
      | d x => unfold RelGC at hgc ⊢; rw [hR]; exact hgc
      | row e ys => unfold RelGC at hgc ⊢; rw [hψ, hR]; exact hgc
    obtain ⟨b, base, cs0, T, k1, k2, k3, k4, k5, k6, k7, k8⟩ := h
    refine ⟨b, base, cs0, T, by rw [hφ]; exact k1, k2, k3, k4, fun i j gc hi => ?_, by rw [hψ]; exact k6, by rw [hψ]; exact k7, by rw [hψ]; exact k8⟩
    obtain ⟨u, m1, m2⟩ := k5 i j gc hi
    exact ⟨u, m1, hg _ _ _ m2⟩
  | map n es => unfold RelOB at h ⊢; rw [hφ, hR]; exact h
  | fro r b ih =>
    refine ⟨ih h1 h.1, fun hr i hi => ?_⟩
    rw [hR]
    refine h.2 hr i ?_
    unfold Ctx.has at hi ⊢
    rw [hφ, hψ] at hi
    exact hi
end back

/-- A version of object o, new for old. -/
def unv (o cur o1 v : Nat) : Nat := bif Nat.beq o1 o then cur else v

def unCV (o cur : Nat) : CV → CV
  | .ptr o1 v off => .ptr o1 (unv o cur o1 v) off
  | .eptr o1 v e i j => .eptr o1 (unv o cur o1 v) e i j
  | .sl o1 v e off len cap => .sl o1 (unv o cur o1 v) e off len cap
  | .gsl o1 v p e off len => .gsl o1 (unv o cur o1 v) p e off len
  | .gptr o1 v p e i j => .gptr o1 (unv o cur o1 v) p e i j
  | .mp o1 v => .mp o1 (unv o cur o1 v)
  | .fn f caps => .fn f (caps.map fun x => (x.1, unv o cur x.1 x.2.1, x.2.2))
  | x => x

def okv (o new o1 v : Nat) : Bool := bif Nat.beq o1 o then Nat.beq v new else true

def okuCV (o new : Nat) : CV → Bool
  | .ptr o1 v _ => okv o new o1 v
  | .eptr o1 v _ _ _ => okv o new o1 v
  | .sl o1 v _ _ _ _ => okv o new o1 v
  | .gsl o1 v _ _ _ _ => okv o new o1 v
  | .gptr o1 v _ _ _ _ => okv o new o1 v
  | .mp o1 v => okv o new o1 v
  | .fn _ caps => caps.all fun x => okv o new x.1 x.2.1
  | _ => true

def unObjs (o cur : Nat) : Nat → Objs → Objs
  | _, [] => []
  | k, (v, b) :: r => (unv o cur k v, bOB (unCV o cur) b) :: unObjs o cur (k + 1) r

def okObjs (o new : Nat) : Nat → Objs → Bool
  | _, [] => true
  | k, (v, b) :: r => okv o new k v && okOB (okuCV o new) b && okObjs o new (k + 1) r

theorem unObjs_get {o cur : Nat} : ∀ {objs : Objs} {k i : Nat}, (unObjs o cur k objs)[i]? = objs[i]?.map fun x => (unv o cur (k + i) x.1, bOB (unCV o cur) x.2)
  | [], k, i => by simp [unObjs]
  | (v, b) :: r, k, 0 => by simp [unObjs]
  | (v, b) :: r, k, i + 1 => by
    unfold unObjs
    rw [List.getElem?_cons_succ, List.getElem?_cons_succ, unObjs_get, show k + 1 + i = k + (i + 1) by omega]

theorem okObjs_get {o new : Nat} : ∀ {objs : Objs} {k i v : Nat} {b : OB}, okObjs o new k objs = true → objs[i]? = some (v, b) → okv o new (k + i) v = true ∧ okOB (okuCV o new) b = true
  | [], k, i, v, b, _, h => by simp at h
  | (v, b) :: r, k, 0, _, _, hk, h => by
    simp only [okObjs, Bool.and_eq_true] at hk
    obtain ⟨rfl, rfl⟩ : v = _ ∧ b = _ := by simpa using h
    exact ⟨hk.1.1, hk.1.2⟩
  | (v, b) :: r, k, i + 1, _, _, hk, h => by
    simp only [okObjs, Bool.and_eq_true] at hk
    have := okObjs_get hk.2 (by simpa using h)
    rwa [show k + 1 + i = k + (i + 1) by omega] at this

theorem unv_le {o cur new o1 v v0 : Nat} (h1 : okv o new o1 v = true) (h0 : okv o new o1 v0 = true) (h : unv o cur o1 v ≤ unv o cur o1 v0) : v ≤ v0 := by
  unfold okv at h1 h0
  unfold unv at h
  cases e : Nat.beq o1 o with
  | true =>
    rw [e] at h1 h0
    have a := Nat.eq_of_beq_eq_true h1
    have b := Nat.eq_of_beq_eq_true h0
    omega
  | false => rw [e] at h; exact h

theorem weak_ver {n0 n o cur new : Nat} {env' : List (Nat × SV)} {objs' : Objs} (hok : (okEnv (okuCV o new) env' && okObjs o new 0 objs') = true) (hn : n0 ≤ o) :
    Weak n0 ⟨bEnv (unCV o cur) env', unObjs o cur 0 objs', n⟩ ⟨env', objs', n⟩ := by
  rw [Bool.and_eq_true] at hok
  obtain ⟨hoe, hoo⟩ := hok
  intro c a w hr
  have hro : RelObjs c (unObjs o cur 0 objs') w := hr.objs
  have up : ∀ {i v : Nat} {b : OB}, objs'[i]? = some (v, b) → (unObjs o cur 0 objs')[i]? = some (unv o cur i v, bOB (unCV o cur) b) := by
    intro i v b h
    rw [unObjs_get, h, Nat.zero_add]; rfl
  have hkn : ∀ {o1 v : Nat}, okv o new o1 v = true → Known (unObjs o cur 0 objs') o1 (unv o cur o1 v) → Known objs' o1 v := by
    intro o1 v hk ⟨cv, b, h1, h2⟩
    rw [unObjs_get, Nat.zero_add] at h1
    cases e : objs'[o1]? with
    | none => rw [e] at h1; cases h1
    | some x =>
      rw [e] at h1
      obtain ⟨v0, b0⟩ := x
      have := Option.some.inj h1
      simp only [Prod.mk.injEq] at this
      obtain ⟨rfl, _⟩ := this
      have k0 := (okObjs_get hoo e).1
      rw [Nat.zero_add] at k0
      exact ⟨v0, b0, e, unv_le hk k0 h2⟩
  have hlv : ∀ {o1 v : Nat}, Live objs' o1 v → Live (unObjs o cur 0 objs') o1 (unv o cur o1 v) := by
    intro o1 v ⟨b, h1, h2⟩
    exact ⟨_, up h1, bOB_dead _ h2⟩
  have hpt : ∀ {o1 v off : Nat} {u : Value}, okv o new o1 v = true → PtrIs c (unObjs o cur 0 objs') o1 (unv o cur o1 v) off u → PtrIs c objs' o1 v off u :=
    fun hk h => ⟨h.1, hkn hk h.2.1, fun hl => h.2.2 (hlv hl)⟩
  have hcell : ∀ x u, okuCV o new x = true → RelCV c (unObjs o cur 0 objs') w (unCV o cur x) u → RelCV c objs' w x u := by
    intro x u hk h
    cases x with
    | ptr o1 v off => exact hpt hk h
    | eptr o1 v e i j => exact hpt hk h
    | sl o1 v e off len cap => exact ⟨h.1, hkn hk h.2.1, fun hl => h.2.2 (hlv hl)⟩
    | gsl o1 v p e off len => exact ⟨h.1, hkn hk h.2.1, fun hl => h.2.2 (hlv hl)⟩
    | gptr o1 v p e i j => exact ⟨h.1, hkn hk h.2.1, fun hl => h.2.2 (hlv hl)⟩
    | mp o1 v => exact ⟨h.1, hkn hk h.2.1, fun hl => h.2.2 (hlv hl)⟩
    | fn f caps =>
      obtain ⟨vs, h1, h2, h3⟩ := h
      refine ⟨vs, h1, by simpa using h2, fun i o1 v off hi => ?_⟩
      obtain ⟨u, k1, k2⟩ := h3 i o1 (unv o cur o1 v) off (by rw [List.getElem?_map, hi]; rfl)
      exact ⟨u, k1, hpt (List.all_eq_true.1 hk _ (List.mem_of_getElem? hi)) k2⟩
    | _ => exact h
  have hown : ∀ b, Own c objs' b → Own c (unObjs o cur 0 objs') b := by
    rintro b ⟨i, v, bd, h1, h2, h3⟩
    exact ⟨i, _, _, up h1, by rw [bOB_mine]; exact h2, h3⟩
  refine ⟨c, ?_, ⟨⟨fun i v b hi => relOB_back hcell rfl rfl rfl (okObjs_get hoo hi).2 (hro.ob i _ _ (up hi)), fun i i' v v' bd bd' b h1 h2 h3 h4 => hro.inj i i' _ _ _ _ b (up h1) (by rw [bOB_mine]; exact h2) (up h3) (bOB_dead _ h4), hro.rsize,
    fun i v bd b h1 h2 h3 => hro.lsize i _ _ b (up h1) (bOB_dead _ h2) h3, fun b hb => hro.oR b (hown b hb)⟩, fun t ht => ?_, hr.size, hr.defers⟩⟩
  · refine ⟨Nat.le_refl _, rfl, rfl, rfl, fun _ _ _ => rfl, fun _ cs _ h => ⟨cs, h, rfl⟩, fun b hb => .inl (hown b hb), fun _ h => h, fun _ h => .inl h, fun i v bd hi h => ?_⟩
    dsimp only at h ⊢
    rw [unObjs_get, Nat.zero_add] at h
    cases e : objs'[i]? with
    | none => rw [e] at h; cases h
    | some x =>
      rw [e] at h
      obtain ⟨v0, b0⟩ := x
      have := Option.some.inj h
      simp only [Prod.mk.injEq] at this
      obtain ⟨rfl, rfl⟩ := this
      have hne : Nat.beq i o = false := by
        cases hb : Nat.beq i o with
        | true => have := Nat.eq_of_beq_eq_true hb; omega
        | false => rfl
      refine ⟨v0, b0, rfl, by unfold unv; rw [hne]; exact Nat.le_refl _, fun _ hd => ⟨bOB_dead _ hd, rfl, fun _ _ h => h⟩⟩
  · obtain ⟨u, k1, k2⟩ := hr.env t ht
    refine ⟨u, k1, relSV_back hcell (okEnv_get hoe t) ?_⟩
    have k3 : RelSV c (unObjs o cur 0 objs') w (getE (bEnv (unCV o cur) env') t) u := k2
    rw [getE_back] at k3
    exact k3

theorem Weak.trans {n0 : Nat} {a b c : St} (h : Weak n0 a b) (g : Weak n0 b c) : Weak n0 a c := by
  intro x y w hr
  obtain ⟨x1, e1, r1⟩ := h x y w hr
  obtain ⟨x2, e2, r2⟩ := g x1 y w r1
  exact ⟨x2, e1.trans e2 (Nat.le_refl _), r2⟩

/-- At the head of a round: what matters of a state, with an object's version anew. -/
theorem weak_verof {n0 n : Nat} (o cur new : Nat) {env env' : List (Nat × SV)} {objs objs' : Objs} (hobj : objs.take (unObjs o cur 0 objs').length = unObjs o cur 0 objs') (he : envOK env (bEnv (unCV o cur) env'))
    (hcl : (clEnv (unObjs o cur 0 objs').length (bEnv (unCV o cur) env') && clObjs (unObjs o cur 0 objs').length (unObjs o cur 0 objs')) = true) (hok : (okEnv (okuCV o new) env' && okObjs o new 0 objs') = true) (hn : n0 ≤ o) (hn' : n0 ≤ (unObjs o cur 0 objs').length) :
    Weak n0 ⟨env, objs, n⟩ ⟨env', objs', n⟩ :=
  (weak_of hobj he hcl hn').trans (weak_ver hok hn)

/-- Nil, where an empty row of one's own stands. -/
def nilCV (o : Nat) : CV → CV
  | .sl o1 v e off len cap => bif Nat.beq o1 o then .nilsl else .sl o1 v e off len cap
  | x => x

def oknCV (o : Nat) : CV → Bool
  | .sl o1 v _ _ len cap => bif Nat.beq o1 o then (Nat.beq v 0 && Nat.beq len 0 && cap.isNone) else true
  | .ptr o1 _ _ => !Nat.beq o1 o
  | .eptr o1 _ _ _ _ => !Nat.beq o1 o
  | .gsl o1 _ _ _ _ _ => !Nat.beq o1 o
  | .gptr o1 _ _ _ _ _ => !Nat.beq o1 o
  | .mp o1 _ => !Nat.beq o1 o
  | .fn _ caps => caps.all fun x => !Nat.beq x.1 o
  | _ => true

def nilObjs (o : Nat) : Objs → Objs
  | [] => []
  | (v, b) :: r => (v, bOB (nilCV o) b) :: nilObjs o r

def oknObjs (o : Nat) : Objs → Bool
  | [] => true
  | (_, b) :: r => okOB (oknCV o) b && oknObjs o r

theorem nilObjs_get {o : Nat} : ∀ {objs : Objs} {i : Nat}, (nilObjs o objs)[i]? = objs[i]?.map fun x => (x.1, bOB (nilCV o) x.2)
  | [], i => by simp [nilObjs]
  | (v, b) :: r, 0 => by simp [nilObjs]
  | (v, b) :: r, i + 1 => by
    unfold nilObjs
    rw [List.getElem?_cons_succ, List.getElem?_cons_succ, nilObjs_get]

theorem oknObjs_get {o : Nat} : ∀ {objs : Objs} {i v : Nat} {b : OB}, oknObjs o objs = true → objs[i]? = some (v, b) → okOB (oknCV o) b = true
  | [], i, v, b, _, h => by simp at h
  | (v, b) :: r, 0, _, _, hk, h => by
    simp only [oknObjs, Bool.and_eq_true] at hk
    obtain ⟨rfl, rfl⟩ : v = _ ∧ b = _ := by simpa using h
    exact hk.1
  | (v, b) :: r, i + 1, _, _, hk, h => by
    simp only [oknObjs, Bool.and_eq_true] at hk
    exact oknObjs_get hk.2 (by simpa using h)

theorem beq_ne {a b : Nat} (h : (!Nat.beq a b) = true) : a ≠ b := by
  rintro rfl
  rw [Nat.beq_refl] at h
  cases h

theorem weak_nil {n0 n o e : Nat} {env' : List (Nat × SV)} {t : Objs} (ho : t.length = o) (hok : (okEnv (oknCV o) env' && oknObjs o t) = true) (hn : n0 ≤ o) :
    Weak n0 ⟨bEnv (nilCV o) env', nilObjs o t, n⟩ ⟨env', t ++ [(0, .arr e [])], n⟩ := by
  rw [Bool.and_eq_true] at hok
  obtain ⟨hoe, hoo⟩ := hok
  intro c a w hr
  have hro : RelObjs c (nilObjs o t) w := hr.objs
  let c' : Ctx := ⟨fun i => if i = o then none else c.φ i, c.R, fun i => if i = o then fun _ => none else c.ψ i⟩
  have hφ : ∀ i, i ≠ o → c'.φ i = c.φ i := fun i h => if_neg h
  have hψ : ∀ i, i ≠ o → c'.ψ i = c.ψ i := fun i h => if_neg h
  have hφo : c'.φ o = none := if_pos rfl
  have hψo : c'.ψ o = fun _ => none := if_pos rfl
  have hhas : ∀ i b, i ≠ o → (c'.has i b ↔ c.has i b) := fun i b h => by unfold Ctx.has; rw [hφ i h, hψ i h]
  have hno : ∀ b, ¬ c'.has o b := by
    rintro b (⟨base, h⟩ | ⟨p, base, h⟩)
    · rw [hφo] at h; cases h
    · rw [hψo] at h; cases h
  have up : ∀ {i v : Nat} {b : OB}, t[i]? = some (v, b) → (nilObjs o t)[i]? = some (v, bOB (nilCV o) b) := by
    intro i v b h
    rw [nilObjs_get, h]; rfl
  have hlast : (t ++ [((0 : Nat), OB.arr e [])])[o]? = some (0, .arr e []) := by rw [← ho]; simp
  have hget : ∀ {i : Nat} {x : Nat × OB}, (t ++ [((0 : Nat), OB.arr e [])])[i]? = some x → (i ≠ o ∧ t[i]? = some x) ∨ (i = o ∧ x = (0, .arr e [])) := by
    intro i x h
    by_cases h1 : i < t.length
    · rw [List.getElem?_append_left h1] at h; exact .inl ⟨by omega, h⟩
    · by_cases h2 : i = o
      · subst h2; rw [hlast] at h; exact .inr ⟨rfl, (Option.some.inj h).symm⟩
      · rw [List.getElem?_append_right (by omega)] at h
        have : ([((0 : Nat), OB.arr e [])])[i - t.length]? = none := List.getElem?_eq_none (by simp; omega)
        rw [this] at h; cases h
  have hkn : ∀ {o1 v : Nat}, Known (nilObjs o t) o1 v → Known (t ++ [(0, .arr e [])]) o1 v := by
    intro o1 v ⟨cv, b, h1, h2⟩
    rw [nilObjs_get] at h1
    cases e1 : t[o1]? with
    | none => rw [e1] at h1; cases h1
    | some x =>
      rw [e1] at h1
      obtain ⟨v0, b0⟩ := x
      have := Option.some.inj h1
      simp only [Prod.mk.injEq] at this
      obtain ⟨rfl, _⟩ := this
      exact ⟨v0, b0, by rw [List.getElem?_append_left (List.getElem?_eq_some_iff.1 e1).1]; exact e1, h2⟩
  have hlv : ∀ {o1 v : Nat}, o1 ≠ o → Live (t ++ [(0, .arr e [])]) o1 v → Live (nilObjs o t) o1 v := by
    intro o1 v hne ⟨b, h1, h2⟩
    rcases hget h1 with ⟨_, h3⟩ | ⟨h3, _⟩
    · exact ⟨_, up h3, bOB_dead _ h2⟩
    · exact absurd h3 hne
  have hpt : ∀ {o1 v off : Nat} {u : Value}, o1 ≠ o → PtrIs c (nilObjs o t) o1 v off u → PtrIs c' (t ++ [(0, .arr e [])]) o1 v off u :=
    fun hne h => ⟨h.1, hkn h.2.1, fun hl => by rw [hφ _ hne]; exact h.2.2 (hlv hne hl)⟩
  have hcell : ∀ x u, oknCV o x = true → RelCV c (nilObjs o t) w (nilCV o x) u → RelCV c' (t ++ [(0, .arr e [])]) w x u := by
    intro x u hk h
    cases x with
    | ptr o1 v off => exact hpt (beq_ne hk) h
    | eptr o1 v e i j => exact hpt (beq_ne hk) h
    | sl o1 v e1 off len cap =>
      cases hb : Nat.beq o1 o with
      | true =>
        have := Nat.eq_of_beq_eq_true hb
        subst this
        simp only [oknCV, hb, cond_true, Bool.and_eq_true] at hk
        obtain ⟨⟨h1, h2⟩, h3⟩ := hk
        have h1 := Nat.eq_of_beq_eq_true h1
        have h2 := Nat.eq_of_beq_eq_true h2
        have h3 : cap = none := by cases cap; · rfl
                                   · cases h3
        subst h1 h2 h3
        simp only [nilCV, hb, cond_true] at h
        have hu : u = .slice none 0 0 := h
        subst hu
        refine ⟨rfl, ⟨0, _, hlast, Nat.le_refl _⟩, fun _ => ⟨none, 0, rfl, Nat.le_refl _, (fun c hc => by cases hc), fun hp => absurd hp (Nat.lt_irrefl 0)⟩⟩
      | false =>
        have hne : o1 ≠ o := by rintro rfl; rw [Nat.beq_refl] at hb; cases hb
        simp only [nilCV, hb, cond_false] at h
        refine ⟨h.1, hkn h.2.1, fun hl => ?_⟩
        rw [hφ _ hne]
        exact h.2.2 (hlv hne hl)
    | gsl o1 v p e1 off len =>
      have hne : o1 ≠ o := beq_ne hk
      refine ⟨h.1, hkn h.2.1, fun hl => ?_⟩
      rw [hψ _ hne]
      exact h.2.2 (hlv hne hl)
    | gptr o1 v p e1 i j =>
      have hne : o1 ≠ o := beq_ne hk
      refine ⟨h.1, hkn h.2.1, fun hl => ?_⟩
      rw [hψ _ hne]
      exact h.2.2 (hlv hne hl)
    | mp o1 v =>
      have hne : o1 ≠ o := beq_ne hk
      refine ⟨h.1, hkn h.2.1, fun hl => ?_⟩
      rw [hφ _ hne]
      exact h.2.2 (hlv hne hl)
    | fn f caps =>
      obtain ⟨vs, h1, h2, h3⟩ := h
      refine ⟨vs, h1, h2, fun i o1 v off hi => ?_⟩
      obtain ⟨u, k1, k2⟩ := h3 i o1 v off hi
      exact ⟨u, k1, hpt (beq_ne (List.all_eq_true.1 hk _ (List.mem_of_getElem? hi))) k2⟩
    | _ => exact h
  have hown : ∀ b, Own c' (t ++ [(0, .arr e [])]) b → Own c (nilObjs o t) b := by
    rintro b ⟨i, v, bd, h1, h2, h3⟩
    rcases hget h1 with ⟨hne, h4⟩ | ⟨rfl, _⟩
    · exact ⟨i, _, _, up h4, by rw [bOB_mine]; exact h2, (hhas i b hne).1 h3⟩
    · exact absurd h3 (hno b)
  refine ⟨c', ?_, ⟨⟨fun i v b hi => ?_, fun i i' v v' bd bd' b h1 h2 h3 h4 h5 h6 => ?_, hro.rsize, fun i v bd b h1 h2 h3 => ?_, fun b hb => hro.oR b (hown b hb)⟩, fun t1 ht => ?_, hr.size, hr.defers⟩⟩
  · refine ⟨Nat.le_refl _, rfl, rfl, rfl, fun _ _ _ => rfl, fun _ cs _ h => ⟨cs, h, rfl⟩, fun b hb => .inl (hown b hb), fun _ h => h, fun _ h => .inl h, fun i v bd hi h => ?_⟩
    dsimp only at h ⊢
    rw [nilObjs_get] at h
    cases e1 : t[i]? with
    | none => rw [e1] at h; cases h
    | some x =>
      rw [e1] at h
      obtain ⟨v0, b0⟩ := x
      have := Option.some.inj h
      simp only [Prod.mk.injEq] at this
      obtain ⟨rfl, rfl⟩ := this
      have hl := (List.getElem?_eq_some_iff.1 e1).1
      have hne : i ≠ o := by omega
      exact ⟨v0, b0, by rw [List.getElem?_append_left hl]; exact e1, Nat.le_refl _, fun _ hd => ⟨bOB_dead _ hd, hφ i hne, fun p x hx => by rw [hψ i hne]; exact hx⟩⟩
  · rcases hget hi with ⟨hne, h4⟩ | ⟨rfl, h4⟩
    · exact relOB_back hcell (hφ i hne) (hψ i hne) rfl (oknObjs_get hoo h4) (hro.ob i _ _ (up h4))
    · cases h4
      exact .inl ⟨hφo, rfl⟩
  · rcases hget h1 with ⟨hne, k1⟩ | ⟨rfl, _⟩
    · rcases hget h3 with ⟨hne', k3⟩ | ⟨rfl, _⟩
      · exact hro.inj i i' _ _ _ _ b (up k1) (by rw [bOB_mine]; exact h2) (up k3) (bOB_dead _ h4) ((hhas i b hne).1 h5) ((hhas i' b hne').1 h6)
      · exact absurd h6 (hno b)
    · exact absurd h5 (hno b)
  · rcases hget h1 with ⟨hne, k1⟩ | ⟨rfl, _⟩
    · exact hro.lsize i _ _ b (up k1) (bOB_dead _ h2) ((hhas i b hne).1 h3)
    · exact absurd h3 (hno b)
  · obtain ⟨u, k1, k2⟩ := hr.env t1 ht
    refine ⟨u, k1, relSV_back hcell (okEnv_get hoe t1) ?_⟩
    have k3 : RelSV c (nilObjs o t) w (getE (bEnv (nilCV o) env') t1) u := k2
    rw [getE_back] at k3
    exact k3

/-- At the head of a round: what matters of a state, with an empty row of one's own where nil stands. -/
theorem weak_nilof {n0 n : Nat} (o e : Nat) {env env' : List (Nat × SV)} {objs t : Objs} (hobj : objs.take (nilObjs o t).length = nilObjs o t) (he : envOK env (bEnv (nilCV o) env'))
    (hcl : (clEnv (nilObjs o t).length (bEnv (nilCV o) env') && clObjs (nilObjs o t).length (nilObjs o t)) = true) (ho : t.length = o) (hok : (okEnv (oknCV o) env' && oknObjs o t) = true) (hn : n0 ≤ o) (hn' : n0 ≤ (nilObjs o t).length) :
    Weak n0 ⟨env, objs, n⟩ ⟨env', t ++ [(0, .arr e [])], n⟩ :=
  (weak_of hobj he hcl hn').trans (weak_nil ho hok hn)

end Go.Proofs.Ytmfdkjjhdjkgpaa

namespace Go.Proofs.Ytmfdkjjhdjkgpaa
open Go Go.RowKit

def rnCV (σ : Nat → Nat) : CV → CV
  | .ptr o v off => .ptr (σ o) v off
  | .eptr o v e i j => .eptr (σ o) v e i j
  | .sl o v e off len cap => .sl (σ o) v e off len cap
  | .gsl o v p e off len => .gsl (σ o) v p e off len
  | .gptr o v p e i j => .gptr (σ o) v p e i j
  | .mp o v => .mp (σ o) v
  | .fn f caps => .fn f (caps.map fun (o, v, off) => (σ o, v, off))
  | x => x

theorem rnCV_id {x : CV} : rnCV (fun o => o) x = x := by
  cases x <;> simp [rnCV]

theorem bV1_id {x : V1} : bV1 (rnCV fun o => o) x = x := by
  have : (rnCV fun o => o) = id := funext fun _ => rnCV_id
  cases x <;> simp [bV1, this]

theorem bOB_id : ∀ {b : OB}, bOB (rnCV fun o => o) b = b
  | .dead => rfl
  | .arr _ _ => rfl
  | .grid _ _ => rfl
  | .map _ _ => rfl
  | .box cs => by
    have : (rnCV fun o => o) = id := funext fun _ => rnCV_id
    simp [bOB, this]
  | .fro r b => by simp [bOB, bOB_id (b := b)]

structure MoveRef (c : Ctx) (objs : Objs) (c' : Ctx) (objs' : Objs) (o o' : Nat) : Prop where
  known : ∀ ver, Known objs o ver → Known objs' o' ver
  live : ∀ ver, Live objs' o' ver → Live objs o ver
  φ : c'.φ o' = c.φ o
  ψ : c'.ψ o' = c.ψ o

section
variable {c c' : Ctx} {objs objs' : Objs} {w : World} {α β : Nat → Nat} {n : Nat}

theorem ptrIs_move {o o' ver off : Nat} {u : Value} (hm : MoveRef c objs c' objs' o o') (h : PtrIs c objs o ver off u) : PtrIs c' objs' o' ver off u := by
  refine ⟨h.1, hm.known _ h.2.1, fun hl => ?_⟩
  obtain ⟨b, base, k1, k2⟩ := h.2.2 (hm.live _ hl)
  exact ⟨b, base, hm.φ.trans k1, k2⟩

theorem relCV_move (hm : ∀ o, o < n → MoveRef c objs c' objs' (α o) (β o)) (hR : ∀ b, c.R b → c'.R b) {x : CV} {u : Value} (hc : clCV n x = true) (h : RelCV c objs w (rnCV α x) u) : RelCV c' objs' w (rnCV β x) u := by
  cases x with
  | d x => exact Rep.mono hR (fun _ _ => rfl) h
  | nilsl => exact h
  | esl => exact h
  | ip e xs i j =>
    obtain ⟨b, off, u', h1, h2⟩ := h
    exact ⟨b, off, u', Rep.mono hR (fun _ _ => rfl) h1, h2⟩
  | ptr o ver off => exact ptrIs_move (hm o (blt_lt hc)) h
  | eptr o ver e i j => exact ptrIs_move (hm o (blt_lt hc)) h
  | sl o ver e off len cap =>
    have m := hm o (blt_lt hc)
    refine ⟨h.1, m.known _ h.2.1, fun hl => ?_⟩
    obtain ⟨a, cp, k1, k2, k3, k4⟩ := h.2.2 (m.live _ hl)
    refine ⟨a, cp, k1, k2, k3, fun h0 => ?_⟩
    obtain ⟨b, base, cs, T, q1, q2⟩ := k4 h0
    exact ⟨b, base, cs, T, m.φ.trans q1, q2⟩
  | gsl o ver p e off len =>
    have m := hm o (blt_lt hc)
    refine ⟨h.1, m.known _ h.2.1, fun hl => ?_⟩
    obtain ⟨a, cp, k1, k2, k4⟩ := h.2.2 (m.live _ hl)
    refine ⟨a, cp, k1, k2, fun h0 => ?_⟩
    obtain ⟨b, base, q1, q2⟩ := k4 h0
    exact ⟨b, base, by rw [m.ψ]; exact q1, q2⟩
  | gptr o ver p e i j =>
    have m := hm o (blt_lt hc)
    refine ⟨h.1, m.known _ h.2.1, fun hl => ?_⟩
    obtain ⟨b, base, q1, q2⟩ := h.2.2 (m.live _ hl)
    exact ⟨b, base, by rw [m.ψ]; exact q1, q2⟩
  | mp o ver =>
    have m := hm o (blt_lt hc)
    refine ⟨h.1, m.known _ h.2.1, fun hl => ?_⟩
    obtain ⟨b, base, q1, q2⟩ := h.2.2 (m.live _ hl)
    exact ⟨b, base, m.φ.trans q1, q2⟩
  | fn f caps =>
    obtain ⟨vs, h1, h2, h3⟩ := h
    refine ⟨vs, h1, by simpa using h2, fun i o ver off hi => ?_⟩
    rw [List.getElem?_map, Option.map_eq_some_iff] at hi
    obtain ⟨⟨o0, v0, f0⟩, hi, he⟩ := hi
    simp only [Prod.mk.injEq] at he
    obtain ⟨rfl, rfl, rfl⟩ := he
    obtain ⟨u', k1, k2⟩ := h3 i (α o0) v0 f0 (by rw [List.getElem?_map, hi]; rfl)
    have := List.all_eq_true.1 hc _ (List.mem_of_getElem? hi)
    exact ⟨u', k1, ptrIs_move (hm o0 (blt_lt this)) k2⟩

theorem relV1_move (hm : ∀ o, o < n → MoveRef c objs c' objs' (α o) (β o)) (hR : ∀ b, c.R b → c'.R b) {x : V1} {u : Value} (hc : clV1 n x = true) (h : RelV1 c objs w (bV1 (rnCV α) x) u) : RelV1 c' objs' w (bV1 (rnCV β) x) u := by
  cases x with
  | c x => exact relCV_move hm hR hc h
  | agg xs =>
    obtain ⟨vs, h1, h2, h3⟩ := h
    refine ⟨vs, h1, by simpa using h2, fun i x hi => ?_⟩
    rw [List.getElem?_map, Option.map_eq_some_iff] at hi
    obtain ⟨y, hi, rfl⟩ := hi
    obtain ⟨u', k1, k2⟩ := h3 i (rnCV α y) (by rw [List.getElem?_map, hi]; rfl)
    exact ⟨u', k1, relCV_move hm hR (List.all_eq_true.1 hc _ (List.mem_of_getElem? hi)) k2⟩

theorem relSV_move (hm : ∀ o, o < n → MoveRef c objs c' objs' (α o) (β o)) (hR : ∀ b, c.R b → c'.R b) {x : SV} {u : Value} (hc : clSV n x = true) (h : RelSV c objs w (bSV (rnCV α) x) u) : RelSV c' objs' w (bSV (rnCV β) x) u := by
  cases x with
  | un => trivial
  | one x => exact relV1_move hm hR hc h
  | tup xs =>
    obtain ⟨vs, h1, h2, h3⟩ := h
    refine ⟨vs, h1, by simpa using h2, fun i x hi => ?_⟩
    rw [List.getElem?_map, Option.map_eq_some_iff] at hi
    obtain ⟨y, hi, rfl⟩ := hi
    obtain ⟨u', k1, k2⟩ := h3 i (bV1 (rnCV α) y) (by rw [List.getElem?_map, hi]; rfl)
    exact ⟨u', k1, relV1_move hm hR (List.all_eq_true.1 hc _ (List.mem_of_getElem? hi)) k2⟩

theorem has_move {o o' b : Nat} (h1 : c'.φ o' = c.φ o) (h2 : c'.ψ o' = c.ψ o) : c'.has o' b ↔ c.has o b := by
  unfold Ctx.has; rw [h1, h2]

theorem relOB_move (hm : ∀ o, o < n → MoveRef c objs c' objs' (α o) (β o)) (hR : ∀ b, c.R b → c'.R b) {o o' : Nat} (hφ : c'.φ o' = c.φ o) (hψ : c'.ψ o' = c.ψ o) {b : OB} (hc : clOB n b = true)
    (h : RelOB c objs w o (bOB (rnCV α) b)) : RelOB c' objs' w o' (bOB (rnCV β) b) := by
  induction b with
  | dead => trivial
  | arr e xs => exact relOB_plain (bd := .arr e xs) rfl hφ hψ hR h
  | grid e xs => exact relOB_plain (bd := .grid e xs) rfl hφ hψ hR h
  | map k es => exact relOB_plain (bd := .map k es) rfl hφ hψ hR h
  | fro r b ih => exact ⟨ih hc h.1, fun hr k hk => hR k (h.2 hr k ((has_move hφ hψ).1 hk))⟩
  | box cs =>
    obtain ⟨b, base, cs0, T, k1, k2, k3, k4⟩ := h
    refine ⟨b, base, cs0, T, hφ.trans k1, k2, by simpa using k3, fun i x hi => ?_⟩
    rw [List.getElem?_map, Option.map_eq_some_iff] at hi
    obtain ⟨y, hi, rfl⟩ := hi
    obtain ⟨u', m1, m2⟩ := k4 i (rnCV α y) (by rw [List.getElem?_map, hi]; rfl)
    exact ⟨u', m1, relCV_move hm hR (List.all_eq_true.1 hc _ (List.mem_of_getElem? hi)) m2⟩
end

/-- Where the callee's objects lie: the first ones at these places, those that it makes behind all others. -/
def rnN : List Nat → Nat → Nat → Nat
  | [] => fun n i => n + i
  | o :: L => fun n i => match i with
    | 0 => o
    | i + 1 => rnN L n i

def putL : List Nat → Objs → Objs → Objs
  | [] => fun objs r => objs ++ r
  | o :: L => fun objs r => match r with
    | [] => objs
    | x :: r => putL L (objs.set o x) r

abbrev putN (objs : Objs) (L : List Nat) (r : Objs) : Objs := putL L objs r

theorem putN_hit : ∀ {L : List Nat} {objs r : Objs} {i : Nat} {x : Nat × OB}, L.Nodup → (∀ o ∈ L, o < objs.length) → L.length ≤ r.length → r[i]? = some x → (putN objs L r)[rnN L objs.length i]? = some x
  | [], objs, r, i, x, _, _, _, h => by
    show (objs ++ r)[objs.length + i]? = _
    rw [List.getElem?_append_right (by omega), Nat.add_sub_cancel_left]; exact h
  | o :: L, objs, [], i, x, _, _, hl, _ => by simp at hl
  | o :: L, objs, y :: r, 0, x, hn, ho, hl, h => by
    simp only [List.getElem?_cons_zero, Option.some.injEq] at h
    subst h
    show (putN (objs.set o y) L r)[o]? = _
    have key : ∀ {L : List Nat} {objs r : Objs}, o < objs.length → o ∉ L → L.length ≤ r.length → (putN objs L r)[o]? = objs[o]? := by
      intro L
      induction L with
      | nil => intro objs r h1 _ _; show (objs ++ r)[o]? = _; rw [List.getElem?_append_left h1]
      | cons p L ih =>
        intro objs r h1 h2 h3
        cases r with
        | nil => simp at h3
        | cons z r =>
          show (putN (objs.set p z) L r)[o]? = _
          rw [ih (by simpa using h1) (fun h => h2 (List.mem_cons_of_mem _ h)) (by simpa using h3), List.getElem?_set_ne (fun h => h2 (by rw [h]; exact List.mem_cons_self))]
    rw [List.nodup_cons] at hn
    rw [key (by simpa using ho o List.mem_cons_self) hn.1 (by simpa using hl), List.getElem?_set_self (ho o List.mem_cons_self)]
  | o :: L, objs, y :: r, i + 1, x, hn, ho, hl, h => by
    rw [List.nodup_cons] at hn
    have := putN_hit (L := L) (objs := objs.set o y) (r := r) (i := i) (x := x) hn.2 (fun p hp => by simpa using ho p (List.mem_cons_of_mem _ hp)) (by simpa using hl) (by simpa using h)
    rw [List.length_set] at this
    exact this

theorem putN_miss : ∀ {L : List Nat} {objs r : Objs} {k : Nat}, k < objs.length → k ∉ L → L.length ≤ r.length → (putN objs L r)[k]? = objs[k]?
  | [], objs, r, k, h1, _, _ => by show (objs ++ r)[k]? = _; rw [List.getElem?_append_left h1]
  | p :: L, objs, [], k, _, _, h3 => by simp at h3
  | p :: L, objs, z :: r, k, h1, h2, h3 => by
    show (putN (objs.set p z) L r)[k]? = _
    rw [putN_miss (by simpa using h1) (fun h => h2 (List.mem_cons_of_mem _ h)) (by simpa using h3), List.getElem?_set_ne (fun h => h2 (by rw [h]; exact List.mem_cons_self))]

theorem putN_len : ∀ {L : List Nat} {objs r : Objs}, L.length ≤ r.length → (putN objs L r).length = objs.length + (r.length - L.length)
  | [], objs, r, _ => by show (objs ++ r).length = _; simp
  | p :: L, objs, [], h3 => by simp at h3
  | p :: L, objs, z :: r, h3 => by
    show (putN (objs.set p z) L r).length = _
    rw [putN_len (by simpa using h3)]; simp

theorem rnN_ge : ∀ {L : List Nat} {n i : Nat}, L.length ≤ i → rnN L n i = n + (i - L.length)
  | [], n, i, _ => rfl
  | _ :: L, n, 0, h => by simp at h
  | _ :: L, n, i + 1, h => by
    show rnN L n i = _
    rw [rnN_ge (by simpa using h)]; simp

theorem rnN_lt : ∀ {L : List Nat} {n i : Nat} {o : Nat}, L[i]? = some o → rnN L n i = o
  | [], n, i, o, h => by simp at h
  | p :: L, n, 0, o, h => by simpa [rnN] using h
  | _ :: L, n, i + 1, o, h => rnN_lt (L := L) (by simpa using h)

theorem rnN_mem {L : List Nat} {n i : Nat} (h : i < L.length) : rnN L n i ∈ L := by
  have : L[i]? = some L[i] := List.getElem?_eq_getElem h
  rw [rnN_lt this]; exact List.getElem_mem h

theorem rnN_inj {L : List Nat} {n i j : Nat} (hn : L.Nodup) (ho : ∀ o ∈ L, o < n) (h : rnN L n i = rnN L n j) : i = j := by
  rcases Nat.lt_or_ge i L.length with hi | hi <;> rcases Nat.lt_or_ge j L.length with hj | hj
  · rw [rnN_lt (List.getElem?_eq_getElem hi), rnN_lt (List.getElem?_eq_getElem hj)] at h
    exact (List.getElem_inj hn).1 h
  · have := ho _ (rnN_mem (n := n) hi)
    rw [rnN_ge hj] at h; omega
  · have := ho _ (rnN_mem (n := n) hj)
    rw [rnN_ge hi] at h; omega
  · rw [rnN_ge hi, rnN_ge hj] at h; omega

/-- The converse of rnN: which of the callee's objects lies there. -/
theorem rnN_or {L : List Nat} {n : Nat} (k : Nat) : (∃ i, rnN L n i = k) ∨ (k < n ∧ k ∉ L) := by
  by_cases hk : k ∈ L
  · obtain ⟨i, hi, rfl⟩ := List.mem_iff_getElem.1 hk
    exact .inl ⟨i, rnN_lt (List.getElem?_eq_getElem hi)⟩
  · rcases Nat.lt_or_ge k n with h | h
    · exact .inr ⟨h, hk⟩
    · exact .inl ⟨L.length + (k - n), by rw [rnN_ge (by omega)]; omega⟩

open Classical in
noncomputable def backN {β : Type} (L : List Nat) (n : Nat) (a b : Nat → β) (k : Nat) : β := if h : ∃ i, rnN L n i = k then a (Classical.choose h) else b k

theorem backN_hit {β : Type} {L : List Nat} {n : Nat} {a b : Nat → β} {i : Nat} (hn : L.Nodup) (ho : ∀ o ∈ L, o < n) : backN L n a b (rnN L n i) = a i := by
  unfold backN
  have h : ∃ j, rnN L n j = rnN L n i := ⟨i, rfl⟩
  rw [dif_pos h, rnN_inj hn ho (Classical.choose_spec h)]

theorem backN_miss {β : Type} {L : List Nat} {n : Nat} {a b : Nat → β} {k : Nat} (ho : ∀ o ∈ L, o < n) (h1 : k < n) (h2 : k ∉ L) : backN L n a b k = b k := by
  unfold backN
  rw [dif_neg]
  rintro ⟨i, rfl⟩
  rcases Nat.lt_or_ge i L.length with hi | hi
  · exact h2 (rnN_mem hi)
  · rw [rnN_ge hi] at h1; omega

def rnX (σ : Nat → Nat) (x : Nat × OB) : Nat × OB := (x.1, bOB (rnCV σ) x.2)

/-- What is there before a call, at the places where the callee's objects are to lie. -/
def subL (objs : Objs) (σ : Nat → Nat) : Objs → List Nat → Prop
  | [] => fun L => L = []
  | x :: r => fun L => match L with
    | [] => False
    | o :: L => objs[o]? = some (rnX σ x) ∧ subL objs σ r L

abbrev subN (objs : Objs) (σ : Nat → Nat) (L : List Nat) (r : Objs) : Prop := subL objs σ r L

theorem subN_get {objs : Objs} {σ : Nat → Nat} : ∀ {r : Objs} {L : List Nat}, subN objs σ L r → L.length = r.length ∧ (∀ o ∈ L, o < objs.length) ∧ ∀ (i : Nat) x, r[i]? = some x → ∃ o, L[i]? = some o ∧ objs[o]? = some (rnX σ x)
  | [], L, h => by
    have : L = [] := h
    subst this; simp
  | x :: r, [], h => h.elim
  | x :: r, o :: L, ⟨h1, h2⟩ => by
    obtain ⟨k1, k2, k3⟩ := subN_get h2
    refine ⟨by simp [k1], fun p hp => ?_, fun i y hy => ?_⟩
    · rcases List.mem_cons.1 hp with rfl | hp
      · exact (List.getElem?_eq_some_iff.1 h1).1
      · exact k2 p hp
    · cases i with
      | zero => simp at hy; subst hy; exact ⟨o, rfl, h1⟩
      | succ i => simpa using k3 i y (by simpa using hy)

theorem bOB_mine' {σ : Nat → Nat} (b : OB) : (bOB (rnCV σ) b).mine = b.mine := by cases b <;> rfl
theorem bOB_dead' {σ : Nat → Nat} {b : OB} : bOB (rnCV σ) b ≠ .dead ↔ b ≠ .dead := by cases b <;> simp [bOB]

set_option maxHeartbeats 1000000 in
theorem frameN {P : Program} {f : FuncId} {args0 args : List V1} {objs0 objs : Objs} {K0 K : SV → Objs → Prop} (L : List Nat) (hmin : CallX P f args0 objs0 K0)
    (hcl : (args0.all (clV1 objs0.length) && clObjs objs0.length objs0) = true) (hnd : L.Nodup) (hob : subN objs (rnN L objs.length) L objs0)
    (hargs : args = args0.map (bV1 (rnCV (rnN L objs.length))))
    (hK : ∀ sv objs1, K0 sv objs1 → ∃ t gs, objs1 = t ++ gs ∧ objs0.length ≤ t.length ∧ (clSV t.length sv && clObjs t.length t && t.all fun (_, b) => okF b) = true ∧ K (bSV (rnCV (rnN L objs.length)) sv) (putN objs L (t.map (rnX (rnN L objs.length))))) :
    CallX P f args objs K := by
  have hmin := callX_tail (K := fun sv t => objs0.length ≤ t.length ∧ (clSV t.length sv && clObjs t.length t && t.all fun (_, b) => okF b) = true ∧ K (bSV (rnCV (rnN L objs.length)) sv) (putN objs L (t.map (rnX (rnN L objs.length))))) hmin
    (fun sv objs1 h => by obtain ⟨t, gs, h1, h2, h3, h4⟩ := hK sv objs1 h; exact ⟨t, gs, h1, h2, (by rw [Bool.and_eq_true] at h3; exact h3.1), h2, h3, h4⟩)
  clear hK
  subst hargs
  obtain ⟨hlen, hlt, hget⟩ := subN_get hob
  rw [Bool.and_eq_true] at hcl
  obtain ⟨hca, hco⟩ := hcl
  obtain ⟨σ, hσ⟩ : ∃ σ, σ = rnN L objs.length := ⟨_, rfl⟩
  rw [← hσ] at hob hget hmin ⊢
  have hσi : ∀ {i j : Nat}, σ i = σ j → i = j := fun h => rnN_inj hnd hlt (by rw [← hσ]; exact h)
  have hσm : ∀ {i : Nat}, i < objs0.length → σ i ∈ L := fun h => by rw [hσ]; exact rnN_mem (by omega)
  have hat : ∀ {i : Nat} {x : Nat × OB}, objs0[i]? = some x → objs[σ i]? = some (rnX σ x) := by
    intro i x h
    obtain ⟨o, h1, h2⟩ := hget i x h
    rw [hσ, rnN_lt h1, ← hσ]; exact h2
  refine ⟨hmin.enter, fun c w vals hr hl hv => ?_⟩
  let c0 : Ctx := ⟨fun i => if i < objs0.length then c.φ (σ i) else none, c.R, fun i => if i < objs0.length then c.ψ (σ i) else fun _ => none⟩
  have hφ0 : ∀ {i : Nat}, i < objs0.length → c0.φ i = c.φ (σ i) := fun h => by simp [c0, h]
  have hψ0 : ∀ {i : Nat}, i < objs0.length → c0.ψ i = c.ψ (σ i) := fun h => by simp [c0, h]
  have hhas0 : ∀ {i b : Nat}, i < objs0.length → (c0.has i b ↔ c.has (σ i) b) := fun h => has_move (hφ0 h) (hψ0 h)
  have hli : ∀ {i : Nat} {x : Nat × OB}, objs0[i]? = some x → i < objs0.length := fun h => (List.getElem?_eq_some_iff.1 h).1
  have hback : ∀ o, o < objs0.length → MoveRef c objs c0 objs0 (σ o) o := by
    intro o ho
    have hx : objs0[o]? = some objs0[o] := List.getElem?_eq_getElem ho
    have hy := hat hx
    refine ⟨fun ver hk => ?_, fun ver hl => ?_, hφ0 ho, hψ0 ho⟩
    · obtain ⟨cur, b, h1, h2⟩ := hk
      rw [hy] at h1
      simp only [rnX, Option.some.injEq, Prod.mk.injEq] at h1
      exact ⟨_, _, hx, Nat.le_trans h2 (Nat.le_of_eq h1.1.symm)⟩
    · obtain ⟨b, h1, h2⟩ := hl
      rw [hx] at h1
      simp only [Option.some.injEq] at h1
      exact ⟨bOB (rnCV σ) b, by rw [hy, h1]; rfl, bOB_dead'.2 h2⟩
  have hown0 : ∀ {b : Nat}, Own c0 objs0 b → ∃ i x, objs0[i]? = some x ∧ x.2.mine = true ∧ c.has (σ i) b := by
    rintro b ⟨o', v', bd2, h1, h2, h3⟩
    exact ⟨o', _, h1, h2, (hhas0 (hli h1)).1 h3⟩
  have hownc : ∀ {i b : Nat} {x : Nat × OB}, objs0[i]? = some x → x.2.mine = true → c.has (σ i) b → Own c objs b := by
    intro i b x h1 h2 h3
    exact .mk' (hat h1) (by rw [bOB_mine']; exact h2) h3
  have hr0 : RelObjs c0 objs0 w := by
    refine ⟨fun o ver b h => ?_, fun o1 o2 v1 v2 b1 b2 b h1 d1 h2 d2 p1 p2 => ?_, hr.rsize, fun o ver bd b h1 h2 h3 => ?_, fun b hb => ?_⟩
    · have := relOB_move (α := σ) (β := fun o => o) (n := objs0.length) hback (fun _ h => h) (hφ0 (hli h)) (hψ0 (hli h)) (b := b) (List.all_eq_true.1 hco _ (List.mem_of_getElem? h)) (hr.ob _ _ _ (hat h))
      rwa [bOB_id] at this
    · exact hσi (hr.inj _ _ _ _ _ _ b (hat h1) (by rw [bOB_mine']; exact d1) (hat h2) (bOB_dead'.2 d2) ((hhas0 (hli h1)).1 p1) ((hhas0 (hli h2)).1 p2))
    · exact hr.lsize _ _ _ b (hat h1) (bOB_dead'.2 h2) ((hhas0 (hli h1)).1 h3)
    · obtain ⟨i, x, h1, h2, h3⟩ := hown0 hb
      exact hr.oR b (hownc h1 h2 h3)
  refine (hmin.calls c0 w vals hr0 (by simpa using hl) (fun i x hx => ?_)).mono ?_
  · obtain ⟨u, k1, k2⟩ := hv i (bV1 (rnCV σ) x) (by rw [List.getElem?_map, hx]; rfl)
    refine ⟨u, k1, ?_⟩
    have := relV1_move (α := σ) (β := fun o => o) (n := objs0.length) hback (fun _ h => h) (x := x) (List.all_eq_true.1 hca _ (List.mem_of_getElem? hx)) k2
    rwa [bV1_id] at this
  rintro e' w' ⟨v, c', objs1, sv, rfl, hE, hr', hsv, hlen1, hcl1, hKK⟩
  rw [Bool.and_eq_true, Bool.and_eq_true] at hcl1
  obtain ⟨⟨hcs, hcb⟩, hokf⟩ := hcl1
  have hLr : L.length ≤ (objs1.map (rnX σ)).length := by simp; omega
  obtain ⟨objs2, hobjs2⟩ : ∃ o2, o2 = putN objs L (objs1.map (rnX σ)) := ⟨_, rfl⟩
  rw [← hobjs2] at hKK
  have hhit : ∀ {i : Nat} {x : Nat × OB}, objs1[i]? = some x → objs2[σ i]? = some (rnX σ x) := by
    intro i x h
    rw [hobjs2, hσ, ← hσ]
    have := putN_hit (L := L) (objs := objs) (r := objs1.map (rnX σ)) (i := i) (x := rnX σ x) hnd hlt hLr (by rw [List.getElem?_map, h]; rfl)
    rw [← hσ] at this; exact this
  have hmiss : ∀ {k : Nat}, k < objs.length → k ∉ L → objs2[k]? = objs[k]? := fun h1 h2 => by rw [hobjs2]; exact putN_miss h1 h2 hLr
  have hcase : ∀ {k : Nat} {x : Nat × OB}, objs2[k]? = some x → (∃ i y, k = σ i ∧ objs1[i]? = some y ∧ x = rnX σ y) ∨ (k < objs.length ∧ k ∉ L ∧ objs[k]? = some x) := by
    intro k x h
    rcases rnN_or (L := L) (n := objs.length) k with ⟨i, rfl⟩ | ⟨h1, h2⟩
    · rcases Nat.lt_or_ge i objs1.length with hi | hi
      · have hy := List.getElem?_eq_getElem hi
        have := hhit hy
        rw [← hσ] at h
        rw [h] at this
        exact .inl ⟨i, _, by rw [hσ], hy, by simpa using this⟩
      · have h3 := (List.getElem?_eq_some_iff.1 h).1
        rw [hobjs2, putN_len hLr, rnN_ge (by omega)] at h3
        simp at h3; omega
    · rw [hmiss h1 h2] at h
      exact .inr ⟨h1, h2, h⟩
  let c'' : Ctx := ⟨backN L objs.length c'.φ c.φ, c'.R, backN L objs.length c'.ψ c.ψ⟩
  have hφ1 : ∀ {i : Nat}, c''.φ (σ i) = c'.φ i := by intro i; rw [hσ]; exact backN_hit hnd hlt
  have hψ1 : ∀ {i : Nat}, c''.ψ (σ i) = c'.ψ i := by intro i; rw [hσ]; exact backN_hit hnd hlt
  have hφ2 : ∀ {k : Nat}, k < objs.length → k ∉ L → c''.φ k = c.φ k := fun h1 h2 => backN_miss hlt h1 h2
  have hψ2 : ∀ {k : Nat}, k < objs.length → k ∉ L → c''.ψ k = c.ψ k := fun h1 h2 => backN_miss hlt h1 h2
  have hhas1 : ∀ {i b : Nat}, c''.has (σ i) b ↔ c'.has i b := fun {i b} => has_move hφ1 hψ1
  have hhas2 : ∀ {k b : Nat}, k < objs.length → k ∉ L → (c''.has k b ↔ c.has k b) := fun h1 h2 => has_move (hφ2 h1 h2) (hψ2 h1 h2)
  have hfwd : ∀ o, o < objs1.length → MoveRef c' objs1 c'' objs2 o (σ o) := by
    intro o ho
    have hx : objs1[o]? = some objs1[o] := List.getElem?_eq_getElem ho
    have hy := hhit hx
    refine ⟨fun ver hk => ?_, fun ver hl => ?_, hφ1, hψ1⟩
    · obtain ⟨cur, b, h1, h2⟩ := hk
      rw [hx] at h1
      simp only [Option.some.injEq] at h1
      exact ⟨cur, _, by rw [hy, h1]; rfl, h2⟩
    · obtain ⟨b, h1, h2⟩ := hl
      rw [hy] at h1
      simp only [rnX, Option.some.injEq, Prod.mk.injEq] at h1
      obtain ⟨h1, h3⟩ := h1
      subst h1 h3
      exact ⟨_, hx, bOB_dead'.1 h2⟩
  have hnew : ∀ {i b : Nat} {x : Nat × OB}, objs1[i]? = some x → x.2.mine = true → c'.has i b → Own c objs b ∨ w.heap.size ≤ b := by
    intro i b x h1 h2 h3
    rcases hE.own b ⟨i, _, _, h1, h2, h3⟩ with h | h
    · obtain ⟨j, y, k1, k2, k3⟩ := hown0 h
      exact .inl (hownc k1 k2 k3)
    · exact .inr h
  have hnew0 : ∀ {i b : Nat} {x : Nat × OB}, objs1[i]? = some x → x.2.mine = true → c'.has i b → (∃ j y, objs0[j]? = some y ∧ y.2.mine = true ∧ c.has (σ j) b) ∨ w.heap.size ≤ b := by
    intro i b x h1 h2 h3
    exact (hE.own b ⟨i, _, _, h1, h2, h3⟩).imp hown0 id
  have hRd : ∀ {b : Nat}, c'.R b → c.R b ∨ (∃ j y, objs0[j]? = some y ∧ y.2.mine = true ∧ c.has (σ j) b) ∨ w.heap.size ≤ b := by
    intro b hb
    rcases hE.rdown b hb with h | h | h
    · exact .inl h
    · exact .inr (.inl (hown0 h))
    · exact .inr (.inr h)
  have hother : ∀ {k ver b : Nat} {bd : OB} {j : Nat} {y : Nat × OB}, k ∉ L → objs[k]? = some (ver, bd) → bd ≠ .dead → c.has k b → objs0[j]? = some y → y.2.mine = true → ¬ c.has (σ j) b := by
    intro k ver b bd j y h1 h2 h3 h4 h5 h6 h7
    have := hr.inj _ _ _ _ _ _ b (hat h5) (by rw [bOB_mine']; exact h6) h2 h3 h7 h4
    exact h1 (this ▸ hσm (hli h5))
  have hE' : Ext objs.length c objs w c'' objs2 w' := by
    refine ⟨hE.size, hE.tape, hE.os, hE.output, fun b hb hno => hE.keep b hb (fun h => ?_), hE.shape, fun b hb => ?_, hE.rup, fun b hb => ?_, fun o' cur b ho' h => ?_⟩
    · obtain ⟨i, x, h1, h2, h3⟩ := hown0 h
      exact hno (hownc h1 h2 h3)
    · obtain ⟨k, ver, b2, h1, h2, h3⟩ := hb
      rcases hcase h1 with ⟨i, y, rfl, h4, h5⟩ | ⟨h4, h5, h6⟩
      · simp only [rnX, Prod.mk.injEq] at h5
        exact hnew h4 (by rw [← bOB_mine' (σ := σ), ← h5.2]; exact h2) (hhas1.1 h3)
      · exact .inl (.mk' h6 h2 ((hhas2 h4 h5).1 h3))
    · rcases hRd hb with h | ⟨j, y, h1, h2, h3⟩ | h
      · exact .inl h
      · exact .inr (.inl (hownc h1 h2 h3))
      · exact .inr (.inr h)
    · by_cases hk : o' ∈ L
      · obtain ⟨i, hi, rfl⟩ := List.mem_iff_getElem.1 hk
        have hi0 : i < objs0.length := by omega
        have e1 : σ i = L[i] := by rw [hσ]; exact rnN_lt (List.getElem?_eq_getElem hi)
        have hx := List.getElem?_eq_getElem hi0
        have hy := hat hx
        rw [← e1] at h ⊢
        rw [hy] at h
        simp only [rnX, Option.some.injEq, Prod.mk.injEq] at h
        obtain ⟨rfl, rfl⟩ := h
        obtain ⟨cur', bd', g1, g2, g3⟩ := hE.refs i _ _ hi0 hx
        refine ⟨cur', _, hhit g1, g2, fun e hd => ?_⟩
        obtain ⟨m1, m2, m3⟩ := g3 e (bOB_dead'.1 hd)
        refine ⟨bOB_dead'.2 m1, ?_, fun p x hp => ?_⟩
        · rw [hφ1, m2, hφ0 hi0]
        · rw [hψ1]; exact m3 p x (by rw [hψ0 hi0]; exact hp)
      · exact ⟨cur, b, by rw [hmiss ho' hk]; exact h, Nat.le_refl _, fun _ h => ⟨h, hφ2 ho' hk, fun p x hx => by rw [hψ2 ho' hk]; exact hx⟩⟩
  refine ⟨v, c'', objs2, _, rfl, hE', ⟨fun o ver b h => ?_, fun o1 o2 v1 v2 b1 b2 b h1 d1 h2 d2 p1 p2 => ?_, hr'.rsize, fun o ver bd b h1 h2 h3 => ?_, fun b hb hR => ?_⟩, ?_, hKK⟩
  · rcases hcase h with ⟨i, y, rfl, h4, h5⟩ | ⟨h4, h5, h6⟩
    · simp only [rnX, Prod.mk.injEq] at h5
      obtain ⟨rfl, rfl⟩ := h5
      refine relOB_move (α := fun o => o) (β := σ) (n := objs1.length) hfwd (fun _ h => h) hφ1 hψ1 (List.all_eq_true.1 hcb _ (List.mem_of_getElem? h4)) ?_
      rw [bOB_id]
      exact hr'.ob i _ _ h4
    · by_cases hdead : b = .dead
      · subst hdead; exact trivial
      · refine RelOB.keep hE' (Nat.le_refl _) hr (hφ2 h4 h5) (hψ2 h4 h5) (fun k hk => hE.keep k (hr.lsize o ver b k h6 hdead hk) (fun h => ?_)) (hr.ob o ver b h6)
        obtain ⟨j, y, m1, m2, m3⟩ := hown0 h
        exact hother h5 h6 hdead hk m1 m2 m3
  · rcases hcase h1 with ⟨i1, y1, rfl, k1, k2⟩ | ⟨k1, k2, k3⟩ <;> rcases hcase h2 with ⟨i2, y2, rfl, q1, q2⟩ | ⟨q1, q2, q3⟩
    · simp only [rnX, Prod.mk.injEq] at k2 q2
      rw [hr'.inj _ _ _ _ _ _ b k1 (by rw [← bOB_mine' (σ := σ), ← k2.2]; exact d1) q1 (bOB_dead'.1 (by rw [← q2.2]; exact d2)) (hhas1.1 p1) (hhas1.1 p2)]
    · exfalso
      simp only [rnX, Prod.mk.injEq] at k2
      have p2' := (hhas2 q1 q2).1 p2
      rcases hnew0 k1 (by rw [← bOB_mine' (σ := σ), ← k2.2]; exact d1) (hhas1.1 p1) with ⟨j, y, m1, m2, m3⟩ | h
      · exact hother q2 q3 d2 p2' m1 m2 m3
      · have := hr.lsize _ _ _ _ q3 d2 p2'; omega
    · exfalso
      have p1' := (hhas2 k1 k2).1 p1
      simp only [rnX, Prod.mk.injEq] at q2
      have hlive2 : y2.2 ≠ .dead := bOB_dead'.1 (by rw [← q2.2]; exact d2)
      have hown : Own c objs b := .mk' k3 d1 p1'
      have hbs := hr.lsize _ _ _ _ k3 (OB.mine_live d1) p1'
      have hok := List.all_eq_true.1 hokf _ (List.mem_of_getElem? q1)
      have hdone : c'.R b → False := by
        intro hR
        rcases hRd hR with h | ⟨j, y, m1, m2, m3⟩ | h
        · exact hr.oR b hown h
        · exact hother k2 k3 (OB.mine_live d1) p1' m1 m2 m3
        · omega
      have hmine : y2.2.mine = true → False := by
        intro hm
        rcases hnew0 q1 hm (hhas1.1 p2) with ⟨j, y, m1, m2, m3⟩ | h
        · exact hother k2 k3 (OB.mine_live d1) p1' m1 m2 m3
        · omega
      have hob2 := hr'.ob i2 _ _ q1
      obtain ⟨vy, by2⟩ := y2
      cases by2 with
      | dead => exact hlive2 rfl
      | fro r b0 =>
        cases r with
        | true => exact hdone (hob2.2 rfl _ (hhas1.1 p2))
        | false => simp [okF, OB.mine] at hok
      | _ => exact hmine rfl
    · exact hr.inj _ _ _ _ _ _ b k3 d1 q3 d2 ((hhas2 k1 k2).1 p1) ((hhas2 q1 q2).1 p2)
  · rcases hcase h1 with ⟨i, y, rfl, k1, k2⟩ | ⟨k1, k2, k3⟩
    · simp only [rnX, Prod.mk.injEq] at k2
      exact hr'.lsize i _ _ b k1 (bOB_dead'.1 (by rw [← k2.2]; exact h2)) (hhas1.1 h3)
    · exact Nat.lt_of_lt_of_le (hr.lsize o ver bd b k3 h2 ((hhas2 k1 k2).1 h3)) hE.size
  · obtain ⟨k, ver, b2, h1, h2, h3⟩ := hb
    rcases hcase h1 with ⟨i, y, rfl, k1, k2⟩ | ⟨k1, k2, k3⟩
    · simp only [rnX, Prod.mk.injEq] at k2
      exact hr'.oR b ⟨i, _, _, k1, by rw [← bOB_mine' (σ := σ), ← k2.2]; exact h2, hhas1.1 h3⟩ hR
    · have q := (hhas2 k1 k2).1 h3
      rcases hRd hR with h | ⟨j, y, m1, m2, m3⟩ | h
      · exact hr.oR b (.mk' k3 h2 q) h
      · exact hother k2 k3 (OB.mine_live h2) q m1 m2 m3
      · have := hr.lsize _ _ _ b k3 (OB.mine_live h2) q; omega
  · have := relSV_move (α := fun o => o) (β := σ) (n := objs1.length) hfwd (fun _ h => h) (x := sv) hcs (w := w') (u := v) ?_
    · exact this
    · have e : bSV (rnCV fun o => o) sv = sv := by
        cases sv with
        | un => rfl
        | one x => simp [bSV, bV1_id]
        | tup xs =>
          have : (bV1 (rnCV fun o => o)) = id := funext fun _ => bV1_id
          simp [bSV, this]
      rw [e]; exact hsv

theorem bSV_id {sv : SV} : bSV (rnCV fun o => o) sv = sv := by
  cases sv with
  | un => rfl
  | one x => simp [bSV, bV1_id]
  | tup xs =>
    have : (bV1 (rnCV fun o => o)) = id := funext fun _ => bV1_id
    simp [bSV, this]

/-- At the head of a round: some of the objects, in another order. -/
theorem weak_pick' {n0 n : Nat} (L : List Nat) {env env' : List (Nat × SV)} {objs objs' : Objs} (hob : subN objs (rnN L objs.length) L objs') (he : ∀ t, getE (bEnv (rnCV (rnN L objs.length)) env') t = .un ∨ getE (bEnv (rnCV (rnN L objs.length)) env') t = getE env t)
    (hcl : (clEnv objs'.length env' && clObjs objs'.length objs') = true) (hnd : L.Nodup) (hpre : ((List.range n0).all fun i => L[i]? == some i) = true) : Weak n0 ⟨env, objs, n⟩ ⟨env', objs', n⟩ := by
  obtain ⟨hlen, hlt, hget⟩ := subN_get hob
  rw [Bool.and_eq_true] at hcl
  obtain ⟨hce, hco⟩ := hcl
  obtain ⟨σ, hσ⟩ : ∃ σ, σ = rnN L objs.length := ⟨_, rfl⟩
  rw [← hσ] at hob hget he
  have hσi : ∀ {i j : Nat}, σ i = σ j → i = j := fun h => rnN_inj hnd hlt (by rw [← hσ]; exact h)
  have hat : ∀ {i : Nat} {x : Nat × OB}, objs'[i]? = some x → objs[σ i]? = some (rnX σ x) := by
    intro i x h
    obtain ⟨o, h1, h2⟩ := hget i x h
    rw [hσ, rnN_lt h1, ← hσ]; exact h2
  have hid : ∀ i, i < n0 → σ i = i ∧ i < objs'.length := by
    intro i hi
    have h1 := List.all_eq_true.1 hpre i (List.mem_range.2 hi)
    have h2 : L[i]? = some i := by simpa using h1
    refine ⟨by rw [hσ]; exact rnN_lt h2, ?_⟩
    have := (List.getElem?_eq_some_iff.1 h2).1
    omega
  intro c a w hr
  let c0 : Ctx := ⟨fun i => if i < objs'.length then c.φ (σ i) else none, c.R, fun i => if i < objs'.length then c.ψ (σ i) else fun _ => none⟩
  have hφ0 : ∀ {i : Nat}, i < objs'.length → c0.φ i = c.φ (σ i) := fun h => by simp [c0, h]
  have hψ0 : ∀ {i : Nat}, i < objs'.length → c0.ψ i = c.ψ (σ i) := fun h => by simp [c0, h]
  have hhas0 : ∀ {i b : Nat}, i < objs'.length → (c0.has i b ↔ c.has (σ i) b) := fun h => has_move (hφ0 h) (hψ0 h)
  have hli : ∀ {i : Nat} {x : Nat × OB}, objs'[i]? = some x → i < objs'.length := fun h => (List.getElem?_eq_some_iff.1 h).1
  have hback : ∀ o, o < objs'.length → MoveRef c objs c0 objs' (σ o) o := by
    intro o ho
    have hx : objs'[o]? = some objs'[o] := List.getElem?_eq_getElem ho
    have hy := hat hx
    refine ⟨fun ver hk => ?_, fun ver hl => ?_, hφ0 ho, hψ0 ho⟩
    · obtain ⟨cur, b, h1, h2⟩ := hk
      rw [hy] at h1
      simp only [rnX, Option.some.injEq, Prod.mk.injEq] at h1
      exact ⟨_, _, hx, Nat.le_trans h2 (Nat.le_of_eq h1.1.symm)⟩
    · obtain ⟨b, h1, h2⟩ := hl
      rw [hx] at h1
      simp only [Option.some.injEq] at h1
      exact ⟨bOB (rnCV σ) b, by rw [hy, h1]; rfl, bOB_dead'.2 h2⟩
  have hown0 : ∀ {b : Nat}, Own c0 objs' b → Own c objs b := by
    rintro b ⟨o', v', bd2, h1, h2, h3⟩
    exact .mk' (hat h1) (by rw [bOB_mine']; exact h2) ((hhas0 (hli h1)).1 h3)
  have hro : RelObjs c objs w := hr.objs
  refine ⟨c0, ⟨Nat.le_refl _, rfl, rfl, rfl, fun _ _ _ => rfl, fun _ cs _ h => ⟨cs, h, rfl⟩, fun b hb => .inl (hown0 hb), fun _ h => h, fun _ h => .inl h, fun o cur bd ho h => ?_⟩,
    ⟨⟨fun o ver b h => ?_, fun o1 o2 v1 v2 b1 b2 b h1 d1 h2 d2 p1 p2 => ?_, hro.rsize, fun o ver bd b h1 h2 h3 => ?_, fun b hb => hro.oR b (hown0 hb)⟩, fun t ht => ?_, hr.size, hr.defers⟩⟩
  · obtain ⟨e1, e2⟩ := hid o ho
    have hx := List.getElem?_eq_getElem e2
    have hy := hat hx
    rw [e1] at hy
    rw [h] at hy
    simp only [Option.some.injEq, rnX, Prod.mk.injEq] at hy
    refine ⟨_, _, hx, Nat.le_of_eq hy.1, fun _ hd => ⟨by rw [hy.2]; exact bOB_dead'.2 hd, by rw [hφ0 e2, e1], fun p x hp => by rw [hψ0 e2, e1]; exact hp⟩⟩
  · have := relOB_move (α := σ) (β := fun o => o) (n := objs'.length) hback (fun _ h => h) (hφ0 (hli h)) (hψ0 (hli h)) (b := b) (List.all_eq_true.1 hco _ (List.mem_of_getElem? h)) (hro.ob _ _ _ (hat h))
    rwa [bOB_id] at this
  · exact hσi (hro.inj _ _ _ _ _ _ b (hat h1) (by rw [bOB_mine']; exact d1) (hat h2) (bOB_dead'.2 d2) ((hhas0 (hli h1)).1 p1) ((hhas0 (hli h2)).1 p2))
  · exact hro.lsize _ _ _ b (hat h1) (bOB_dead'.2 h2) ((hhas0 (hli h1)).1 h3)
  · obtain ⟨u, k1, k2⟩ := hr.env t ht
    refine ⟨u, k1, ?_⟩
    have hg : getE (bEnv (rnCV σ) env') t = bSV (rnCV σ) (getE env' t) := getE_back
    rcases he t with h1 | h1
    · rw [hg] at h1
      have : getE env' t = .un := by
        cases h2 : getE env' t with
        | un => rfl
        | one x => rw [h2] at h1; cases h1
        | tup xs => rw [h2] at h1; cases h1
      show RelSV c0 objs' w (getE env' t) u
      rw [this]; trivial
    · rw [hg] at h1
      have h3 : RelSV c objs w (bSV (rnCV σ) (getE env' t)) u := by rw [h1]; exact k2
      have := relSV_move (α := σ) (β := fun o => o) (n := objs'.length) hback (fun _ h => h) (clEnv_get hce t) h3
      rwa [bSV_id] at this

/-- weak_pick, with a row's version anew. -/
theorem weak_pick {n0 n : Nat} (L : List Nat) {env env' : List (Nat × SV)} {objs objs' : Objs} (hob : subN objs (rnN L objs.length) L objs') (he : envOK env (bEnv (rnCV (rnN L objs.length)) env'))
    (hcl : (clEnv objs'.length env' && clObjs objs'.length objs') = true) (hnd : L.Nodup) (hpre : ((List.range n0).all fun i => L[i]? == some i) = true) : Weak n0 ⟨env, objs, n⟩ ⟨env', objs', n⟩ :=
  weak_pick' L hob (envOK_get he) hcl hnd hpre

theorem weak_pickver {n0 n : Nat} (L : List Nat) (o cur new : Nat) {env env' : List (Nat × SV)} {objs objs' : Objs} (hob : subN objs (rnN L objs.length) L (unObjs o cur 0 objs'))
    (he : envOK env (bEnv (rnCV (rnN L objs.length)) (bEnv (unCV o cur) env')))
    (hcl : (clEnv (unObjs o cur 0 objs').length (bEnv (unCV o cur) env') && clObjs (unObjs o cur 0 objs').length (unObjs o cur 0 objs')) = true) (hnd : L.Nodup) (hpre : ((List.range n0).all fun i => L[i]? == some i) = true)
    (hok : (okEnv (okuCV o new) env' && okObjs o new 0 objs') = true) (hn : n0 ≤ o) : Weak n0 ⟨env, objs, n⟩ ⟨env', objs', n⟩ :=
  (weak_pick L hob he hcl hnd hpre).trans (weak_ver hok hn)

end Go.Proofs.Ytmfdkjjhdjkgpaa

namespace Go.Proofs.Ytmfdkjjhdjkgpaa
open Go Go.RowKit

def dcCV : CV → CV
  | .sl o ver e off len _ => .sl o ver e off len none
  | x => x

theorem relCV_dc {c : Ctx} {objs : Objs} {w : World} {x : CV} {u : Value} (h : RelCV c objs w x u) : RelCV c objs w (dcCV x) u := by
  cases x with
  | sl o ver e off len cap =>
    obtain ⟨h1, h2, h3⟩ := h
    refine ⟨h1, h2, fun hl => ?_⟩
    obtain ⟨a, cp, k1, k2, _, k4⟩ := h3 hl
    exact ⟨a, cp, k1, k2, (fun _ h => by cases h), k4⟩
  | _ => exact h

theorem relV1_dc {c : Ctx} {objs : Objs} {w : World} {x : V1} {u : Value} (h : RelV1 c objs w x u) : RelV1 c objs w (bV1 dcCV x) u := by
  cases x with
  | c x => exact relCV_dc h
  | agg xs =>
    obtain ⟨vs, h1, h2, h3⟩ := h
    refine ⟨vs, h1, by simpa [bV1] using h2, fun i x hi => ?_⟩
    have hi : (xs.map dcCV)[i]? = some x := hi
    rw [List.getElem?_map, Option.map_eq_some_iff] at hi
    obtain ⟨y, hy, rfl⟩ := hi
    obtain ⟨u, k1, k2⟩ := h3 i y hy
    exact ⟨u, k1, relCV_dc k2⟩

theorem relSV_dc {c : Ctx} {objs : Objs} {w : World} {x : SV} {u : Value} (h : RelSV c objs w x u) : RelSV c objs w (bSV dcCV x) u := by
  cases x with
  | un => exact trivial
  | one x => exact relV1_dc h
  | tup xs =>
    obtain ⟨vs, h1, h2, h3⟩ := h
    refine ⟨vs, h1, by simpa [bSV] using h2, fun i x hi => ?_⟩
    have hi : (xs.map (bV1 dcCV))[i]? = some x := hi
    rw [List.getElem?_map, Option.map_eq_some_iff] at hi
    obtain ⟨y, hy, rfl⟩ := hi
    obtain ⟨u, k1, k2⟩ := h3 i y hy
    exact ⟨u, k1, relV1_dc k2⟩

theorem weak_cap {n0 n : Nat} {env : List (Nat × SV)} {objs : Objs} : Weak n0 ⟨env, objs, n⟩ ⟨bEnv dcCV env, objs, n⟩ := by
  intro c a w hr
  refine ⟨c, Ext.refl _ _ _ _, hr.objs, fun t ht => ?_, hr.size, hr.defers⟩
  obtain ⟨v, h1, h2⟩ := hr.env t ht
  exact ⟨v, h1, by rw [getE_back]; exact relSV_dc h2⟩

theorem weak_capof {n0 n : Nat} {env env' : List (Nat × SV)} {objs objs' : Objs} (hobj : objs.take objs'.length = objs') (he : envOK (bEnv dcCV env) env') (hcl : (clEnv objs'.length env' && clObjs objs'.length objs') = true) (hn : n0 ≤ objs'.length) :
    Weak n0 ⟨env, objs, n⟩ ⟨env', objs', n⟩ := weak_cap.trans (weak_of hobj he hcl hn)

theorem weak_capver {n0 n : Nat} (o cur new : Nat) {env env' : List (Nat × SV)} {objs objs' : Objs} (hobj : objs.take (unObjs o cur 0 objs').length = unObjs o cur 0 objs') (he : envOK (bEnv dcCV env) (bEnv (unCV o cur) env'))
    (hcl : (clEnv (unObjs o cur 0 objs').length (bEnv (unCV o cur) env') && clObjs (unObjs o cur 0 objs').length (unObjs o cur 0 objs')) = true) (hok : (okEnv (okuCV o new) env' && okObjs o new 0 objs') = true) (hn : n0 ≤ o) (hn' : n0 ≤ (unObjs o cur 0 objs').length) :
    Weak n0 ⟨env, objs, n⟩ ⟨env', objs', n⟩ := weak_cap.trans (weak_verof o cur new hobj he hcl hok hn hn')

theorem weak_cappickver {n0 n : Nat} (L : List Nat) (o cur new : Nat) {env env' : List (Nat × SV)} {objs objs' : Objs} (hob : subN objs (rnN L objs.length) L (unObjs o cur 0 objs'))
    (he : envOK (bEnv dcCV env) (bEnv (rnCV (rnN L objs.length)) (bEnv (unCV o cur) env')))
    (hcl : (clEnv (unObjs o cur 0 objs').length (bEnv (unCV o cur) env') && clObjs (unObjs o cur 0 objs').length (unObjs o cur 0 objs')) = true) (hnd : L.Nodup) (hpre : ((List.range n0).all fun i => L[i]? == some i) = true)
    (hok : (okEnv (okuCV o new) env' && okObjs o new 0 objs') = true) (hn : n0 ≤ o) : Weak n0 ⟨env, objs, n⟩ ⟨env', objs', n⟩ := weak_cap.trans (weak_pickver L o cur new hob he hcl hnd hpre hok hn)

theorem app_one {α : Type} {f : α → List DC} {l : List α} {n : Nat} {z v : List DC} (y : α) (hn : n = l.length) (hv : f y = v) :
    List.take n (List.drop 0 (l.map f)) ++ List.take 1 (List.drop 0 ((List.replicate 1 z).set 0 v)) = (l ++ [y]).map f := by
  subst hn hv; simp [List.take_of_length_le]

theorem take_next {α : Type} {l : List α} {i : Nat} {x : α} (h : l[i]? = some x) : l.take (i + 1) = l.take i ++ [x] := by
  rw [List.take_add_one, h]; rfl

/-- append(append([]T{}, l[:k]..), s), then append(.., l[k:]..): what stands there. -/
theorem chain_ins {M : List (List DC)} (k : Nat) {A B C D : Nat} {z v : List DC} (hk : k ≤ M.length) (hA : A = k) (hB : B = 0) (hC : C = M.length - k) (hD : D = k) :
    List.take (0 + (List.take A (List.drop B M)).length + (List.take 1 (List.drop 0 ((List.replicate 1 z).set 0 v))).length) (List.drop 0 (List.take (0 + (List.take A (List.drop B M)).length) (List.drop 0 (List.take 0 (List.drop 0 (List.replicate 0 z)) ++ List.take A (List.drop B M))) ++ List.take 1 (List.drop 0 ((List.replicate 1 z).set 0 v)))) ++ List.take C (List.drop D M) =
      M.take k ++ v :: M.drop k := by
  subst hA hB hC hD
  have e1 : List.take 1 (List.drop 0 ((List.replicate 1 z).set 0 v)) = [v] := rfl
  have e2 : (M.take D).length = D := by rw [List.length_take]; omega
  rw [e1, List.drop_zero]
  simp only [List.replicate_zero, List.drop_zero, List.take_nil, List.nil_append, e2, Nat.zero_add, List.length_cons, List.length_nil]
  rw [List.take_of_length_le (l := M.take D) (by rw [e2]; exact Nat.le_refl _), List.take_of_length_le (l := M.take D ++ [v]) (by rw [List.length_append, e2]; exact Nat.le_refl _), List.take_of_length_le (l := M.drop D) (by simp)]
  simp

theorem chain_len {M : List (List DC)} (k : Nat) {A B C D : Nat} {z v : List DC} (hk : k ≤ M.length) (hA : A = k) (hB : B = 0) (hC : C = M.length - k) (hD : D = k) :
    0 + (List.take A (List.drop B M)).length + (List.take 1 (List.drop 0 ((List.replicate 1 z).set 0 v))).length + (List.take C (List.drop D M)).length = M.length + 1 := by
  subst hA hB hC hD
  simp
  omega

end Go.Proofs.Ytmfdkjjhdjkgpaa

namespace Go.Proofs.Ytmfdkjjhdjkgpaa
open Go Go.RowKit
set_option linter.unusedSimpArgs false

section unun
variable {o cur new : Nat}

end unun

/-- A call on data that hands back data, in a region that draws. -/
theorem callP_data {P : Program} {f : FuncId} {args : List V1} {objs : Objs} {K0 K : SV → Objs → Prop} (h : CallX P f args [] K0) (hcl : args.all (clV1 0) = true) (ha : args = args.map (bV1 (rnCV (rnN [] objs.length))))
    (hK : ∀ sv objs1, K0 sv objs1 → dataSV sv = true ∧ clSV 0 sv = true ∧ bSV (rnCV (rnN [] objs.length)) sv = sv ∧ K sv objs) : CallP P f args objs K := by
  refine callP_frz (K0 := fun sv _ => ∃ objs1, K0 sv objs1) ?_ (fun sv _ ⟨o, g⟩ => ⟨(hK sv o g).1, (hK sv o g).2.2.2⟩)
  have hl : (objs.map frz).length = objs.length := List.length_map _
  refine frameN [] h (by rw [Bool.and_eq_true]; exact ⟨hcl, rfl⟩) (by decide) rfl (by rw [hl]; exact ha) ?_
  intro sv objs1 g
  refine ⟨[], objs1, rfl, Nat.le_refl _, ?_, objs1, ?_⟩
  · show (clSV 0 sv && true && true) = true
    rw [(hK sv objs1 g).2.1]; rfl
  · rw [hl, (hK sv objs1 g).2.2.1]
    exact g

end Go.Proofs.Ytmfdkjjhdjkgpaa

namespace Go.Proofs.Ytmfdkjjhdjkgpaa
open Go Go.RowKit
set_option linter.unusedSimpArgs false

/-- An object of the call's own that nobody will write any more. -/
theorem freeze_any {c : Ctx} {objs : Objs} {w : World} {o ver : Nat} {B : OB} (hB : B.mine = true) (hr : RelObjs c objs w) (ho : objs[o]? = some (ver, B)) :
    Ext objs.length c objs w (c.froze o) (objs.set o (ver, .fro true B)) w ∧ RelObjs (c.froze o) (objs.set o (ver, .fro true B)) w := by
  have hBd : B ≠ .dead := OB.mine_live hB
  have hown : ∀ k, Own (c.froze o) (objs.set o (ver, .fro true B)) k → ∃ o' ver' bd, o' ≠ o ∧ objs[o']? = some (ver', bd) ∧ bd.mine = true ∧ c.has o' k := by
    rintro k ⟨o', ver', bd2, h1, h2, h3⟩
    rcases set_cases ho h1 with ⟨rfl, h4⟩ | ⟨hne, h4⟩
    · simp only [Prod.mk.injEq] at h4; rw [h4.2] at h2; cases h2
    · exact ⟨o', ver', bd2, hne, h4, h2, h3⟩
  have hlive : ∀ {o' ver' : Nat} {bd : OB}, (objs.set o (ver, .fro true B))[o']? = some (ver', bd) → bd ≠ .dead → ∃ v x, objs[o']? = some (v, x) ∧ x ≠ .dead := by
    intro o' ver' bd h hd
    rcases set_cases ho h with ⟨rfl, _⟩ | ⟨_, h4⟩
    · exact ⟨_, _, ho, hBd⟩
    · exact ⟨_, _, h4, hd⟩
  have hE : Ext objs.length c objs w (c.froze o) (objs.set o (ver, .fro true B)) w := by
    refine ⟨Nat.le_refl _, rfl, rfl, rfl, fun _ _ _ => rfl, fun _ cs _ h => ⟨cs, h, rfl⟩, fun k hk => ?_, fun _ h => .inl h, ?_, ?_⟩
    · obtain ⟨o', ver', bd, _, h1, h2, h3⟩ := hown k hk
      exact .inl (.mk' h1 h2 h3)
    · rintro k (h | h)
      · exact .inl h
      · exact .inr (.inl (.mk' ho hB h))
    · intro o' cur bd2 _ h1
      by_cases e' : o' = o
      · subst e'
        rw [ho] at h1
        obtain ⟨rfl, rfl⟩ : ver = cur ∧ B = bd2 := by simpa using h1
        exact ⟨_, _, getElem?_set_self' ho, Nat.le_refl _, fun _ _ => ⟨hBd, rfl, fun _ _ h => h⟩⟩
      · exact ⟨cur, bd2, by rw [List.getElem?_set_ne (Ne.symm e')]; exact h1, Nat.le_refl _, fun _ h => ⟨h, rfl, fun _ _ h => h⟩⟩
  refine ⟨hE, ?_, ?_, ?_, ?_, ?_⟩
  · intro o' ver' bd2 h1
    rcases set_cases ho h1 with ⟨rfl, h4⟩ | ⟨_, h4⟩
    · obtain ⟨rfl, rfl⟩ : ver' = ver ∧ bd2 = .fro true B := by simpa using h4
      exact ⟨RelOB.keep (bd := B) hE (Nat.le_refl _) hr rfl rfl (fun _ _ => rfl) (hr.ob _ _ _ ho), fun _ k hk => .inr hk⟩
    · exact RelOB.keep hE (Nat.le_refl _) hr rfl rfl (fun _ _ => rfl) (hr.ob o' ver' bd2 h4)
  · intro o1 o2 v1 v2 b1 b2 k h1 h2 h3 h4 h5 h6
    have k1 : ∃ v x, objs[o1]? = some (v, x) ∧ x.mine = true := by
      rcases set_cases ho h1 with ⟨rfl, h⟩ | ⟨_, h⟩
      · exact ⟨_, _, ho, hB⟩
      · exact ⟨_, _, h, h2⟩
    obtain ⟨w1, x1, p1, q1⟩ := k1
    obtain ⟨w2, x2, p2, q2⟩ := hlive h3 h4
    exact hr.inj o1 o2 w1 w2 x1 x2 k p1 q1 p2 q2 h5 h6
  · rintro k (h | h)
    · exact hr.rsize k h
    · exact hr.lsize _ _ _ k ho hBd h
  · intro o' ver' bd2 k h1 h2 h3
    obtain ⟨v, x, p1, p2⟩ := hlive h1 h2
    exact hr.lsize _ _ _ k p1 p2 h3
  · intro k hk
    obtain ⟨o', ver', bd, hne, h1, h2, h3⟩ := hown k hk
    rintro (h | h)
    · exact hr.oR k (.mk' h1 h2 h3) h
    · exact hne (hr.inj _ _ _ _ _ _ k h1 h2 ho hBd h3 h)

/-- A cell of a row of rows, as a datum. -/
def gcD : GC → DC
  | .d x => x
  | .row e ys => .list e ys

theorem rep_of_grid {c : Ctx} {objs : Objs} {w : World} {o ver e n : Nat} {cap : Option Nat} {xs : List (List GC)} {u : Value} {R' : Nat → Prop} (hob : RelOB c objs w o (.grid e xs)) (hlive : Live objs o ver) (hx : RelCV c objs w (.sl o ver e 0 n cap) u) (hn : n = xs.length)
    (hR : ∀ b, c.R b → R' b) (hR2 : ∀ b, c.has o b → R' b) : Rep w R' (.list e (xs.map (·.map gcD))) u := by
  subst hn
  obtain ⟨a, cp, rfl, k2, _, k4⟩ := hx.2.2 hlive
  obtain ⟨b, base, cs, T, q1, q2, q3, q4, q5, _⟩ := hob
  have hlen : (xs.map (·.map gcD)).length = xs.length := List.length_map _
  have hcell : ∀ i j, i < xs.length → j < e → ∃ g u, (xs[i]?.bind (·[j]?)) = some g ∧ cs[base + (i * e + j)]? = some u ∧ RelGC c w o (i * e + j) g u := by
    intro i j hi hj
    have hxi : xs[i]? = some xs[i] := List.getElem?_eq_getElem _
    have hxl : xs[i].length = e := q4 _ (List.getElem_mem _)
    have hg : (xs[i]?.bind (·[j]?)) = some (xs[i][j]'(by omega)) := by rw [hxi]; simp
    obtain ⟨u, h1, h2⟩ := q5 i j _ hg
    exact ⟨_, u, hg, h1, h2⟩
  have key : ∀ (p : Nat) g u, RelGC c w o p g u → Rep w R' (gcD g) u := by
    intro p g u hg
    cases g with
    | d x => exact Rep.mono hR (fun _ _ => rfl) hg
    | row e' ys =>
      obtain ⟨a', cp', rfl, g1, g2, g3⟩ := hg
      rcases Nat.eq_zero_or_pos cp' with h0 | h0
      · have : ys = [] := List.eq_nil_of_length_eq_zero (by omega)
        subst this
        exact .list e' [] a' cp' (fun _ _ => undef) (by simp) (by simp) (fun i j h => by simp at h) (fun i j x h => by simp at h)
      · obtain ⟨b', base', cs', T', p1, rfl, p3, p4, p5⟩ := g3 h0
        refine .list e' ys _ cp' (fun i j => (cs'[base' + (i * e' + j)]?).getD undef) g1 g2 (fun i j hi hj => ⟨b', base', rfl, hR2 b' (.inr ⟨_, _, p1⟩), ?_⟩) (fun i j d hd => ?_)
        · have hyi : ys[i]? = some ys[i] := List.getElem?_eq_getElem _
          have hyl : ys[i].length = e' := g2 _ (List.getElem_mem _)
          obtain ⟨u, m1, m2⟩ := p5 i j (ys[i][j]'(by omega)) (by rw [hyi]; simp)
          rw [cell_of p3, m1]
          rfl
        · obtain ⟨u, m1, m2⟩ := p5 i j d hd
          rw [m1]
          exact m2.mono hR (fun _ _ => rfl)
  have hval : ∀ i j, i < xs.length → j < e → 0 < cp := fun i j hi _ => by omega
  have := Rep.list (w := w) (R := R') e (xs.map (·.map gcD)) a cp (fun i j => (cs[base + (i * e + j)]?).getD undef) (by rw [hlen]; exact k2) (fun x hx => by
      obtain ⟨y, hy, rfl⟩ := List.mem_map.1 hx
      rw [List.length_map]; exact q4 y hy)
    (fun i j hi hj => by
      rw [hlen] at hi
      obtain ⟨b2, base2, cs2, T2, m1, m2, m3, m4⟩ := k4 (hval i j hi hj)
      rw [q1] at m1
      obtain ⟨rfl, rfl⟩ : b = b2 ∧ base = base2 := by simpa using m1
      obtain ⟨g, u, _, h2, _⟩ := hcell i j hi hj
      refine ⟨b, base, by rw [m2]; simp, hR2 b (.inl ⟨_, q1⟩), ?_⟩
      rw [cell_of q2, h2]
      rfl)
    (fun i j d hd => by
      rw [List.getElem?_map] at hd
      cases hxi : xs[i]? with
      | none => rw [hxi] at hd; cases hd
      | some x =>
        rw [hxi] at hd
        have hd : (x.map gcD)[j]? = some d := hd
        rw [List.getElem?_map] at hd
        cases hxj : x[j]? with
        | none => rw [hxj] at hd; cases hd
        | some g =>
          rw [hxj] at hd
          obtain rfl := Option.some.inj hd
          obtain ⟨u, h1, h2⟩ := q5 i j g (by rw [hxi]; exact hxj)
          rw [h1]
          exact key _ _ _ h2)
  rw [hlen] at this
  exact this

/-- A callee's row of rows, handed back, as data. -/
theorem CallX.freezeG {P : Program} {f : FuncId} {args : List V1} {objs : Objs} {K K' : SV → Objs → Prop} (h : CallX P f args objs K)
    (g : ∀ sv objs', K sv objs' → ∃ o ver e n cap xs, sv = .one (.c (.sl o ver e 0 n cap)) ∧ objs'[o]? = some (ver, .grid e xs) ∧ n = xs.length ∧ K' (.one (.c (.d (.list e (xs.map (·.map gcD)))))) (objs'.set o (ver, .fro true (.grid e xs)))) : CallX P f args objs K' := by
  refine ⟨h.enter, fun c w vals h1 h2 h3 => (h.calls c w vals h1 h2 h3).mono ?_⟩
  rintro _ w' ⟨v, c', objs', sv, e, k1, k2, k3, k4⟩
  obtain ⟨o, ver, e', n, cap, xs, rfl, m2, m3, m4⟩ := g sv objs' k4
  obtain ⟨hE, hr⟩ := freeze_any (B := .grid e' xs) rfl k2 m2
  have hrep := rep_of_grid (R' := (c'.froze o).R) (k2.ob _ _ _ m2) ⟨_, m2, by simp⟩ k3 m3 (fun _ h => .inl h) (fun _ h => .inr h)
  exact ⟨v, _, _, .one (.c (.d _)), e, k1.trans hE k1.len0, hr, hrep, m4⟩

end Go.Proofs.Ytmfdkjjhdjkgpaa

/- At the head of a round: versions anew; nil as an empty row of one's own. -/
import Derived.Test.YtbmaofepmheeeaaKs
namespace Go.Proofs.Ytbmaofepmheeeaa
open Go Go.RowKit
set_option linter.unusedSimpArgs false

section back
variable (g : CV → CV) (ok : CV → Bool)

def bV1 : V1 → V1
  | .c x => .c (g x)
  | .agg xs => .agg (xs.map g)

def bSV : SV → SV
  | .un => .un
  | .one x => .one (bV1 g x)
  | .tup xs => .tup (xs.map (bV1 g))

def bEnv : List (Nat × SV) → List (Nat × SV)
  | [] => []
  | (t, x) :: r => (t, bSV g x) :: bEnv r

def bOB : OB → OB
  | .box cs => .box (cs.map g)
  | .fro r b => .fro r (bOB b)
  | x => x

def okV1 : V1 → Bool
  | .c x => ok x
  | .agg xs => xs.all ok

def okSV : SV → Bool
  | .un => true
  | .one x => okV1 ok x
  | .tup xs => xs.all (okV1 ok)

def okEnv : List (Nat × SV) → Bool
  | [] => true
  | (_, x) :: r => okSV ok x && okEnv r

def okOB : OB → Bool
  | .box cs => cs.all ok
  | .fro _ b => okOB b
  | _ => true

theorem bOB_mine (b : OB) : (bOB g b).mine = b.mine := by cases b <;> rfl

theorem bOB_dead {b : OB} (h : b ≠ .dead) : bOB g b ≠ .dead := by cases b <;> simp [bOB] at h ⊢

theorem getE_back {g : CV → CV} {t : Nat} : ∀ {env : List (Nat × SV)}, getE (bEnv g env) t = bSV g (getE env t)
  | [] => rfl
  | (k, v) :: r => by
    unfold bEnv getE
    by_cases e : t = k
    · rw [if_pos e, if_pos e]
    · rw [if_neg e, if_neg e]; exact getE_back

theorem okEnv_get {ok : CV → Bool} : ∀ {env : List (Nat × SV)}, okEnv ok env = true → ∀ t, okSV ok (getE env t) = true
  | [], _, t => rfl
  | (k, v) :: r, h, t => by
    simp only [okEnv, Bool.and_eq_true] at h
    unfold getE
    by_cases e : t = k
    · rw [if_pos e]; exact h.1
    · rw [if_neg e]; exact okEnv_get h.2 t

variable {g ok} {c c' : Ctx} {objs objs' : Objs} {w : World}

theorem relV1_back (hc : ∀ x u, ok x = true → RelCV c objs w (g x) u → RelCV c' objs' w x u) {x : V1} {u : Value} (h1 : okV1 ok x = true) (h : RelV1 c objs w (bV1 g x) u) : RelV1 c' objs' w x u := by
  cases x with
  | c x => exact hc x u h1 h
  | agg xs =>
    obtain ⟨vs, k1, k2, k3⟩ := h
    refine ⟨vs, k1, by simpa using k2, fun i x hi => ?_⟩
    obtain ⟨u, m1, m2⟩ := k3 i (g x) (by rw [List.getElem?_map, hi]; rfl)
    exact ⟨u, m1, hc x u (List.all_eq_true.1 h1 _ (List.mem_of_getElem? hi)) m2⟩

theorem relSV_back (hc : ∀ x u, ok x = true → RelCV c objs w (g x) u → RelCV c' objs' w x u) {x : SV} {u : Value} (h1 : okSV ok x = true) (h : RelSV c objs w (bSV g x) u) : RelSV c' objs' w x u := by
  cases x with
  | un => trivial
  | one x => exact relV1_back hc h1 h
  | tup xs =>
    obtain ⟨vs, k1, k2, k3⟩ := h
    refine ⟨vs, k1, by simpa using k2, fun i x hi => ?_⟩
    obtain ⟨u, m1, m2⟩ := k3 i (bV1 g x) (by rw [List.getElem?_map, hi]; rfl)
    exact ⟨u, m1, relV1_back hc (List.all_eq_true.1 h1 _ (List.mem_of_getElem? hi)) m2⟩

theorem relOB_back (hc : ∀ x u, ok x = true → RelCV c objs w (g x) u → RelCV c' objs' w x u) {k : Nat} (hφ : c'.φ k = c.φ k) (hψ : c'.ψ k = c.ψ k) (hR : c'.R = c.R) {b : OB} (h1 : okOB ok b = true) (h : RelOB c objs w k (bOB g b)) : RelOB c' objs' w k b := by
  induction b with
  | dead => trivial
  | box cs =>
    obtain ⟨b, base, cs0, T, k1, k2, k3, k4⟩ := h
    refine ⟨b, base, cs0, T, by rw [hφ]; exact k1, k2, by simpa using k3, fun i x hi => ?_⟩
    obtain ⟨u, m1, m2⟩ := k4 i (g x) (by rw [List.getElem?_map, hi]; rfl)
    exact ⟨u, m1, hc x u (List.all_eq_true.1 h1 _ (List.mem_of_getElem? hi)) m2⟩
  | arr e xs => unfold RelOB at h ⊢; rw [hφ, hR]; exact h
  | grid e xs =>
    have hg : ∀ p gc u, RelGC c w k p gc u → RelGC c' w k p gc u := by
      intro p gc u hgc
      cases gc with
      | d x => unfold RelGC at hgc ⊢; rw [hR]; exact hgc
      | row e ys => unfold RelGC at hgc ⊢; rw [hψ, hR]; exact hgc
    obtain ⟨b, base, cs0, T, k1, k2, k3, k4, k5, k6, k7, k8⟩ := h
    refine ⟨b, base, cs0, T, by rw [hφ]; exact k1, k2, k3, k4, fun i j gc hi => ?_, by rw [hψ]; exact k6, by rw [hψ]; exact k7, by rw [hψ]; exact k8⟩
    obtain ⟨u, m1, m2⟩ := k5 i j gc hi
    exact ⟨u, m1, hg _ _ _ m2⟩
  | map n es => unfold RelOB at h ⊢; rw [hφ, hR]; exact h
  | fro r b ih =>
    refine ⟨ih h1 h.1, fun hr i hi => ?_⟩
    rw [hR]
    refine h.2 hr i ?_
    unfold Ctx.has at hi ⊢
    rw [hφ, hψ] at hi
    exact hi
end back

/-- A version of object o, new for old. -/
def unv (o cur o1 v : Nat) : Nat := bif Nat.beq o1 o then cur else v

def unCV (o cur : Nat) : CV → CV
  | .ptr o1 v off => .ptr o1 (unv o cur o1 v) off
  | .eptr o1 v e i j => .eptr o1 (unv o cur o1 v) e i j
  | .sl o1 v e off len cap => .sl o1 (unv o cur o1 v) e off len cap
  | .gsl o1 v p e off len => .gsl o1 (unv o cur o1 v) p e off len
  | .gptr o1 v p e i j => .gptr o1 (unv o cur o1 v) p e i j
  | .mp o1 v => .mp o1 (unv o cur o1 v)
  | .fn f caps => .fn f (caps.map fun x => (x.1, unv o cur x.1 x.2.1, x.2.2))
  | x => x

def okv (o new o1 v : Nat) : Bool := bif Nat.beq o1 o then Nat.beq v new else true

def okuCV (o new : Nat) : CV → Bool
  | .ptr o1 v _ => okv o new o1 v
  | .eptr o1 v _ _ _ => okv o new o1 v
  | .sl o1 v _ _ _ _ => okv o new o1 v
  | .gsl o1 v _ _ _ _ => okv o new o1 v
  | .gptr o1 v _ _ _ _ => okv o new o1 v
  | .mp o1 v => okv o new o1 v
  | .fn _ caps => caps.all fun x => okv o new x.1 x.2.1
  | _ => true

def unObjs (o cur : Nat) : Nat → Objs → Objs
  | _, [] => []
  | k, (v, b) :: r => (unv o cur k v, bOB (unCV o cur) b) :: unObjs o cur (k + 1) r

def okObjs (o new : Nat) : Nat → Objs → Bool
  | _, [] => true
  | k, (v, b) :: r => okv o new k v && okOB (okuCV o new) b && okObjs o new (k + 1) r

theorem unObjs_get {o cur : Nat} : ∀ {objs : Objs} {k i : Nat}, (unObjs o cur k objs)[i]? = objs[i]?.map fun x => (unv o cur (k + i) x.1, bOB (unCV o cur) x.2)
  | [], k, i => by simp [unObjs]
  | (v, b) :: r, k, 0 => by simp [unObjs]
  | (v, b) :: r, k, i + 1 => by
    unfold unObjs
    rw [List.getElem?_cons_succ, List.getElem?_cons_succ, unObjs_get, show k + 1 + i = k + (i + 1) by omega]

theorem okObjs_get {o new : Nat} : ∀ {objs : Objs} {k i v : Nat} {b : OB}, okObjs o new k objs = true → objs[i]? = some (v, b) → okv o new (k + i) v = true ∧ okOB (okuCV o new) b = true
  | [], k, i, v, b, _, h => by simp at h
  | (v, b) :: r, k, 0, _, _, hk, h => by
    simp only [okObjs, Bool.and_eq_true] at hk
    obtain ⟨rfl, rfl⟩ : v = _ ∧ b = _ := by simpa using h
    exact ⟨hk.1.1, hk.1.2⟩
  | (v, b) :: r, k, i + 1, _, _, hk, h => by
    simp only [okObjs, Bool.and_eq_true] at hk
    have := okObjs_get hk.2 (by simpa using h)
    rwa [show k + 1 + i = k + (i + 1) by omega] at this

theorem unv_le {o cur new o1 v v0 : Nat} (h1 : okv o new o1 v = true) (h0 : okv o new o1 v0 = true) (h : unv o cur o1 v ≤ unv o cur o1 v0) : v ≤ v0 := by
  unfold okv at h1 h0
  unfold unv at h
  cases e : Nat.beq o1 o with
  | true =>
    rw [e] at h1 h0
    have a := Nat.eq_of_beq_eq_true h1
    have b := Nat.eq_of_beq_eq_true h0
    omega
  | false => rw [e] at h; exact h

theorem weak_ver {n0 n o cur new : Nat} {env' : List (Nat × SV)} {objs' : Objs} (hok : (okEnv (okuCV o new) env' && okObjs o new 0 objs') = true) (hn : n0 ≤ o) :
    Weak n0 ⟨bEnv (unCV o cur) env', unObjs o cur 0 objs', n⟩ ⟨env', objs', n⟩ := by
  rw [Bool.and_eq_true] at hok
  obtain ⟨hoe, hoo⟩ := hok
  intro c a w hr
  have hro : RelObjs c (unObjs o cur 0 objs') w := hr.objs
  have up : ∀ {i v : Nat} {b : OB}, objs'[i]? = some (v, b) → (unObjs o cur 0 objs')[i]? = some (unv o cur i v, bOB (unCV o cur) b) := by
    intro i v b h
    rw [unObjs_get, h, Nat.zero_add]; rfl
  have hkn : ∀ {o1 v : Nat}, okv o new o1 v = true → Known (unObjs o cur 0 objs') o1 (unv o cur o1 v) → Known objs' o1 v := by
    intro o1 v hk ⟨cv, b, h1, h2⟩
    rw [unObjs_get, Nat.zero_add] at h1
    cases e : objs'[o1]? with
    | none => rw [e] at h1; cases h1
    | some x =>
      rw [e] at h1
      obtain ⟨v0, b0⟩ := x
      have := Option.some.inj h1
      simp only [Prod.mk.injEq] at this
      obtain ⟨rfl, _⟩ := this
      have k0 := (okObjs_get hoo e).1
      rw [Nat.zero_add] at k0
      exact ⟨v0, b0, e, unv_le hk k0 h2⟩
  have hlv : ∀ {o1 v : Nat}, Live objs' o1 v → Live (unObjs o cur 0 objs') o1 (unv o cur o1 v) := by
    intro o1 v ⟨b, h1, h2⟩
    exact ⟨_, up h1, bOB_dead _ h2⟩
  have hpt : ∀ {o1 v off : Nat} {u : Value}, okv o new o1 v = true → PtrIs c (unObjs o cur 0 objs') o1 (unv o cur o1 v) off u → PtrIs c objs' o1 v off u :=
    fun hk h => ⟨h.1, hkn hk h.2.1, fun hl => h.2.2 (hlv hl)⟩
  have hcell : ∀ x u, okuCV o new x = true → RelCV c (unObjs o cur 0 objs') w (unCV o cur x) u → RelCV c objs' w x u := by
    intro x u hk h
    cases x with
    | ptr o1 v off => exact hpt hk h
    | eptr o1 v e i j => exact hpt hk h
    | sl o1 v e off len cap => exact ⟨h.1, hkn hk h.2.1, fun hl => h.2.2 (hlv hl)⟩
    | gsl o1 v p e off len => exact ⟨h.1, hkn hk h.2.1, fun hl => h.2.2 (hlv hl)⟩
    | gptr o1 v p e i j => exact ⟨h.1, hkn hk h.2.1, fun hl => h.2.2 (hlv hl)⟩
    | mp o1 v => exact ⟨h.1, hkn hk h.2.1, fun hl => h.2.2 (hlv hl)⟩
    | fn f caps =>
      obtain ⟨vs, h1, h2, h3⟩ := h
      refine ⟨vs, h1, by simpa using h2, fun i o1 v off hi => ?_⟩
      obtain ⟨u, k1, k2⟩ := h3 i o1 (unv o cur o1 v) off (by rw [List.getElem?_map, hi]; rfl)
      exact ⟨u, k1, hpt (List.all_eq_true.1 hk _ (List.mem_of_getElem? hi)) k2⟩
    | _ => exact h
  have hown : ∀ b, Own c objs' b → Own c (unObjs o cur 0 objs') b := by
    rintro b ⟨i, v, bd, h1, h2, h3⟩
    exact ⟨i, _, _, up h1, by rw [bOB_mine]; exact h2, h3⟩
  refine ⟨c, ?_, ⟨⟨fun i v b hi => relOB_back hcell rfl rfl rfl (okObjs_get hoo hi).2 (hro.ob i _ _ (up hi)), fun i i' v v' bd bd' b h1 h2 h3 h4 => hro.inj i i' _ _ _ _ b (up h1) (by rw [bOB_mine]; exact h2) (up h3) (bOB_dead _ h4), hro.rsize,
    fun i v bd b h1 h2 h3 => hro.lsize i _ _ b (up h1) (bOB_dead _ h2) h3, fun b hb => hro.oR b (hown b hb)⟩, fun t ht => ?_, hr.size, hr.defers⟩⟩
  · refine ⟨Nat.le_refl _, rfl, rfl, rfl, fun _ _ _ => rfl, fun _ cs _ h => ⟨cs, h, rfl⟩, fun b hb => .inl (hown b hb), fun _ h => h, fun _ h => .inl h, fun i v bd hi h => ?_⟩
    dsimp only at h ⊢
    rw [unObjs_get, Nat.zero_add] at h
    cases e : objs'[i]? with
    | none => rw [e] at h; cases h
    | some x =>
      rw [e] at h
      obtain ⟨v0, b0⟩ := x
      have := Option.some.inj h
      simp only [Prod.mk.injEq] at this
      obtain ⟨rfl, rfl⟩ := this
      have hne : Nat.beq i o = false := by
        cases hb : Nat.beq i o with
        | true => have := Nat.eq_of_beq_eq_true hb; omega
        | false => rfl
      refine ⟨v0, b0, rfl, by unfold unv; rw [hne]; exact Nat.le_refl _, fun _ hd => ⟨bOB_dead _ hd, rfl, fun _ _ h => h⟩⟩
  · obtain ⟨u, k1, k2⟩ := hr.env t ht
    refine ⟨u, k1, relSV_back hcell (okEnv_get hoe t) ?_⟩
    have k3 : RelSV c (unObjs o cur 0 objs') w (getE (bEnv (unCV o cur) env') t) u := k2
    rw [getE_back] at k3
    exact k3

theorem Weak.trans {n0 : Nat} {a b c : St} (h : Weak n0 a b) (g : Weak n0 b c) : Weak n0 a c := by
  intro x y w hr
  obtain ⟨x1, e1, r1⟩ := h x y w hr
  obtain ⟨x2, e2, r2⟩ := g x1 y w r1
  exact ⟨x2, e1.trans e2 (Nat.le_refl _), r2⟩

/-- At the head of a round: what matters of a state, with an object's version anew. -/
theorem weak_verof {n0 n : Nat} (o cur new : Nat) {env env' : List (Nat × SV)} {objs objs' : Objs} (hobj : objs.take (unObjs o cur 0 objs').length = unObjs o cur 0 objs') (he : envOK env (bEnv (unCV o cur) env'))
    (hcl : (clEnv (unObjs o cur 0 objs').length (bEnv (unCV o cur) env') && clObjs (unObjs o cur 0 objs').length (unObjs o cur 0 objs')) = true) (hok : (okEnv (okuCV o new) env' && okObjs o new 0 objs') = true) (hn : n0 ≤ o) (hn' : n0 ≤ (unObjs o cur 0 objs').length) :
    Weak n0 ⟨env, objs, n⟩ ⟨env', objs', n⟩ :=
  (weak_of hobj he hcl hn').trans (weak_ver hok hn)

/-- Nil, where an empty row of one's own stands. -/
def nilCV (o : Nat) : CV → CV
  | .sl o1 v e off len cap => bif Nat.beq o1 o then .nilsl else .sl o1 v e off len cap
  | x => x

def oknCV (o : Nat) : CV → Bool
  | .sl o1 v _ _ len cap => bif Nat.beq o1 o then (Nat.beq v 0 && Nat.beq len 0 && cap.isNone) else true
  | .ptr o1 _ _ => !Nat.beq o1 o
  | .eptr o1 _ _ _ _ => !Nat.beq o1 o
  | .gsl o1 _ _ _ _ _ => !Nat.beq o1 o
  | .gptr o1 _ _ _ _ _ => !Nat.beq o1 o
  | .mp o1 _ => !Nat.beq o1 o
  | .fn _ caps => caps.all fun x => !Nat.beq x.1 o
  | _ => true

def nilObjs (o : Nat) : Objs → Objs
  | [] => []
  | (v, b) :: r => (v, bOB (nilCV o) b) :: nilObjs o r

def oknObjs (o : Nat) : Objs → Bool
  | [] => true
  | (_, b) :: r => okOB (oknCV o) b && oknObjs o r

theorem nilObjs_get {o : Nat} : ∀ {objs : Objs} {i : Nat}, (nilObjs o objs)[i]? = objs[i]?.map fun x => (x.1, bOB (nilCV o) x.2)
  | [], i => by simp [nilObjs]
  | (v, b) :: r, 0 => by simp [nilObjs]
  | (v, b) :: r, i + 1 => by
    unfold nilObjs
    rw [List.getElem?_cons_succ, List.getElem?_cons_succ, nilObjs_get]

theorem oknObjs_get {o : Nat} : ∀ {objs : Objs} {i v : Nat} {b : OB}, oknObjs o objs = true → objs[i]? = some (v, b) → okOB (oknCV o) b = true
  | [], i, v, b, _, h => by simp at h
  | (v, b) :: r, 0, _, _, hk, h => by
    simp only [oknObjs, Bool.and_eq_true] at hk
    obtain ⟨rfl, rfl⟩ : v = _ ∧ b = _ := by simpa using h
    exact hk.1
  | (v, b) :: r, i + 1, _, _, hk, h => by
    simp only [oknObjs, Bool.and_eq_true] at hk
    exact oknObjs_get hk.2 (by simpa using h)

theorem nilObjs_len {o : Nat} : ∀ {objs : Objs}, (nilObjs o objs).length = objs.length
  | [] => rfl
  | _ :: r => by simp [nilObjs, nilObjs_len (objs := r)]

theorem beq_ne {a b : Nat} (h : (!Nat.beq a b) = true) : a ≠ b := by
  rintro rfl
  rw [Nat.beq_refl] at h
  cases h

theorem weak_nil {n0 n o e : Nat} {env' : List (Nat × SV)} {t : Objs} (ho : t.length = o) (hok : (okEnv (oknCV o) env' && oknObjs o t) = true) (hn : n0 ≤ o) :
    Weak n0 ⟨bEnv (nilCV o) env', nilObjs o t, n⟩ ⟨env', t ++ [(0, .arr e [])], n⟩ := by
  rw [Bool.and_eq_true] at hok
  obtain ⟨hoe, hoo⟩ := hok
  intro c a w hr
  have hro : RelObjs c (nilObjs o t) w := hr.objs
  let c' : Ctx := ⟨fun i => if i = o then none else c.φ i, c.R, fun i => if i = o then fun _ => none else c.ψ i⟩
  have hφ : ∀ i, i ≠ o → c'.φ i = c.φ i := fun i h => if_neg h
  have hψ : ∀ i, i ≠ o → c'.ψ i = c.ψ i := fun i h => if_neg h
  have hφo : c'.φ o = none := if_pos rfl
  have hψo : c'.ψ o = fun _ => none := if_pos rfl
  have hhas : ∀ i b, i ≠ o → (c'.has i b ↔ c.has i b) := fun i b h => by unfold Ctx.has; rw [hφ i h, hψ i h]
  have hno : ∀ b, ¬ c'.has o b := by
    rintro b (⟨base, h⟩ | ⟨p, base, h⟩)
    · rw [hφo] at h; cases h
    · rw [hψo] at h; cases h
  have up : ∀ {i v : Nat} {b : OB}, t[i]? = some (v, b) → (nilObjs o t)[i]? = some (v, bOB (nilCV o) b) := by
    intro i v b h
    rw [nilObjs_get, h]; rfl
  have hlast : (t ++ [((0 : Nat), OB.arr e [])])[o]? = some (0, .arr e []) := by rw [← ho]; simp
  have hget : ∀ {i : Nat} {x : Nat × OB}, (t ++ [((0 : Nat), OB.arr e [])])[i]? = some x → (i ≠ o ∧ t[i]? = some x) ∨ (i = o ∧ x = (0, .arr e [])) := by
    intro i x h
    by_cases h1 : i < t.length
    · rw [List.getElem?_append_left h1] at h; exact .inl ⟨by omega, h⟩
    · by_cases h2 : i = o
      · subst h2; rw [hlast] at h; exact .inr ⟨rfl, (Option.some.inj h).symm⟩
      · rw [List.getElem?_append_right (by omega)] at h
        have : ([((0 : Nat), OB.arr e [])])[i - t.length]? = none := List.getElem?_eq_none (by simp; omega)
        rw [this] at h; cases h
  have hkn : ∀ {o1 v : Nat}, Known (nilObjs o t) o1 v → Known (t ++ [(0, .arr e [])]) o1 v := by
    intro o1 v ⟨cv, b, h1, h2⟩
    rw [nilObjs_get] at h1
    cases e1 : t[o1]? with
    | none => rw [e1] at h1; cases h1
    | some x =>
      rw [e1] at h1
      obtain ⟨v0, b0⟩ := x
      have := Option.some.inj h1
      simp only [Prod.mk.injEq] at this
      obtain ⟨rfl, _⟩ := this
      exact ⟨v0, b0, by rw [List.getElem?_append_left (List.getElem?_eq_some_iff.1 e1).1]; exact e1, h2⟩
  have hlv : ∀ {o1 v : Nat}, o1 ≠ o → Live (t ++ [(0, .arr e [])]) o1 v → Live (nilObjs o t) o1 v := by
    intro o1 v hne ⟨b, h1, h2⟩
    rcases hget h1 with ⟨_, h3⟩ | ⟨h3, _⟩
    · exact ⟨_, up h3, bOB_dead _ h2⟩
    · exact absurd h3 hne
  have hpt : ∀ {o1 v off : Nat} {u : Value}, o1 ≠ o → PtrIs c (nilObjs o t) o1 v off u → PtrIs c' (t ++ [(0, .arr e [])]) o1 v off u :=
    fun hne h => ⟨h.1, hkn h.2.1, fun hl => by rw [hφ _ hne]; exact h.2.2 (hlv hne hl)⟩
  have hcell : ∀ x u, oknCV o x = true → RelCV c (nilObjs o t) w (nilCV o x) u → RelCV c' (t ++ [(0, .arr e [])]) w x u := by
    intro x u hk h
    cases x with
    | ptr o1 v off => exact hpt (beq_ne hk) h
    | eptr o1 v e i j => exact hpt (beq_ne hk) h
    | sl o1 v e1 off len cap =>
      cases hb : Nat.beq o1 o with
      | true =>
        have := Nat.eq_of_beq_eq_true hb
        subst this
        simp only [oknCV, hb, cond_true, Bool.and_eq_true] at hk
        obtain ⟨⟨h1, h2⟩, h3⟩ := hk
        have h1 := Nat.eq_of_beq_eq_true h1
        have h2 := Nat.eq_of_beq_eq_true h2
        have h3 : cap = none := by cases cap; · rfl
                                   · cases h3
        subst h1 h2 h3
        simp only [nilCV, hb, cond_true] at h
        have hu : u = .slice none 0 0 := h
        subst hu
        refine ⟨rfl, ⟨0, _, hlast, Nat.le_refl _⟩, fun _ => ⟨none, 0, rfl, Nat.le_refl _, (fun c hc => by cases hc), fun hp => absurd hp (Nat.lt_irrefl 0)⟩⟩
      | false =>
        have hne : o1 ≠ o := by rintro rfl; rw [Nat.beq_refl] at hb; cases hb
        simp only [nilCV, hb, cond_false] at h
        refine ⟨h.1, hkn h.2.1, fun hl => ?_⟩
        rw [hφ _ hne]
        exact h.2.2 (hlv hne hl)
    | gsl o1 v p e1 off len =>
      have hne : o1 ≠ o := beq_ne hk
      refine ⟨h.1, hkn h.2.1, fun hl => ?_⟩
      rw [hψ _ hne]
      exact h.2.2 (hlv hne hl)
    | gptr o1 v p e1 i j =>
      have hne : o1 ≠ o := beq_ne hk
      refine ⟨h.1, hkn h.2.1, fun hl => ?_⟩
      rw [hψ _ hne]
      exact h.2.2 (hlv hne hl)
    | mp o1 v =>
      have hne : o1 ≠ o := beq_ne hk
      refine ⟨h.1, hkn h.2.1, fun hl => ?_⟩
      rw [hφ _ hne]
      exact h.2.2 (hlv hne hl)
    | fn f caps =>
      obtain ⟨vs, h1, h2, h3⟩ := h
      refine ⟨vs, h1, h2, fun i o1 v off hi => ?_⟩
      obtain ⟨u, k1, k2⟩ := h3 i o1 v off hi
      exact ⟨u, k1, hpt (beq_ne (List.all_eq_true.1 hk _ (List.mem_of_getElem? hi))) k2⟩
    | _ => exact h
  have hown : ∀ b, Own c' (t ++ [(0, .arr e [])]) b → Own c (nilObjs o t) b := by
    rintro b ⟨i, v, bd, h1, h2, h3⟩
    rcases hget h1 with ⟨hne, h4⟩ | ⟨rfl, _⟩
    · exact ⟨i, _, _, up h4, by rw [bOB_mine]; exact h2, (hhas i b hne).1 h3⟩
    · exact absurd h3 (hno b)
  refine ⟨c', ?_, ⟨⟨fun i v b hi => ?_, fun i i' v v' bd bd' b h1 h2 h3 h4 h5 h6 => ?_, hro.rsize, fun i v bd b h1 h2 h3 => ?_, fun b hb => hro.oR b (hown b hb)⟩, fun t1 ht => ?_, hr.size, hr.defers⟩⟩
  · refine ⟨Nat.le_refl _, rfl, rfl, rfl, fun _ _ _ => rfl, fun _ cs _ h => ⟨cs, h, rfl⟩, fun b hb => .inl (hown b hb), fun _ h => h, fun _ h => .inl h, fun i v bd hi h => ?_⟩
    dsimp only at h ⊢
    rw [nilObjs_get] at h
    cases e1 : t[i]? with
    | none => rw [e1] at h; cases h
    | some x =>
      rw [e1] at h
      obtain ⟨v0, b0⟩ := x
      have := Option.some.inj h
      simp only [Prod.mk.injEq] at this
      obtain ⟨rfl, rfl⟩ := this
      have hl := (List.getElem?_eq_some_iff.1 e1).1
      have hne : i ≠ o := by omega
      exact ⟨v0, b0, by rw [List.getElem?_append_left hl]; exact e1, Nat.le_refl _, fun _ hd => ⟨bOB_dead _ hd, hφ i hne, fun p x hx => by rw [hψ i hne]; exact hx⟩⟩
  · rcases hget hi with ⟨hne, h4⟩ | ⟨rfl, h4⟩
    · exact relOB_back hcell (hφ i hne) (hψ i hne) rfl (oknObjs_get hoo h4) (hro.ob i _ _ (up h4))
    · cases h4
      exact .inl ⟨hφo, rfl⟩
  · rcases hget h1 with ⟨hne, k1⟩ | ⟨rfl, _⟩
    · rcases hget h3 with ⟨hne', k3⟩ | ⟨rfl, _⟩
      · exact hro.inj i i' _ _ _ _ b (up k1) (by rw [bOB_mine]; exact h2) (up k3) (bOB_dead _ h4) ((hhas i b hne).1 h5) ((hhas i' b hne').1 h6)
      · exact absurd h6 (hno b)
    · exact absurd h5 (hno b)
  · rcases hget h1 with ⟨hne, k1⟩ | ⟨rfl, _⟩
    · exact hro.lsize i _ _ b (up k1) (bOB_dead _ h2) ((hhas i b hne).1 h3)
    · exact absurd h3 (hno b)
  · obtain ⟨u, k1, k2⟩ := hr.env t1 ht
    refine ⟨u, k1, relSV_back hcell (okEnv_get hoe t1) ?_⟩
    have k3 : RelSV c (nilObjs o t) w (getE (bEnv (nilCV o) env') t1) u := k2
    rw [getE_back] at k3
    exact k3

/-- At the head of a round: what matters of a state, with an empty row of one's own where nil stands. -/
theorem weak_nilof {n0 n : Nat} (o e : Nat) {env env' : List (Nat × SV)} {objs t : Objs} (hobj : objs.take (nilObjs o t).length = nilObjs o t) (he : envOK env (bEnv (nilCV o) env'))
    (hcl : (clEnv (nilObjs o t).length (bEnv (nilCV o) env') && clObjs (nilObjs o t).length (nilObjs o t)) = true) (ho : t.length = o) (hok : (okEnv (oknCV o) env' && oknObjs o t) = true) (hn : n0 ≤ o) (hn' : n0 ≤ (nilObjs o t).length) :
    Weak n0 ⟨env, objs, n⟩ ⟨env', t ++ [(0, .arr e [])], n⟩ :=
  (weak_of hobj he hcl hn').trans (weak_nil ho hok hn)

end Go.Proofs.Ytbmaofepmheeeaa

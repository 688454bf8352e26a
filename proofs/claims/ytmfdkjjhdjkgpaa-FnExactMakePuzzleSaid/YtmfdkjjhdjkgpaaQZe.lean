/- Loops: what is told of a state at the head of a round. -/
import Derived.Test.YtmfdkjjhdjkgpaaQZd
namespace Go.Proofs.Ytmfdkjjhdjkgpaa
open Go Go.RowKit

theorem blt_lt {a b : Nat} (h : Nat.blt a b = true) : a < b := by rwa [Nat.blt_eq] at h

def clCV (n : Nat) : CV → Bool
  | .ptr o _ _ => Nat.blt o n
  | .eptr o _ _ _ _ => Nat.blt o n
  | .sl o _ _ _ _ _ => Nat.blt o n
  | .gsl o _ _ _ _ _ => Nat.blt o n
  | .gptr o _ _ _ _ _ => Nat.blt o n
  | .mp o _ => Nat.blt o n
  | .fn _ caps => caps.all fun (o, _, _) => Nat.blt o n
  | _ => true

def clV1 (n : Nat) : V1 → Bool
  | .c x => clCV n x
  | .agg xs => xs.all (clCV n)

def clSV (n : Nat) : SV → Bool
  | .un => true
  | .one x => clV1 n x
  | .tup xs => xs.all (clV1 n)

def clOB (n : Nat) : OB → Bool
  | .box xs => xs.all (clCV n)
  | .fro _ b => clOB n b
  | _ => true

def clObjs (n : Nat) (objs : Objs) : Bool := objs.all fun (_, b) => clOB n b

def clEnv (n : Nat) (env : List (Nat × SV)) : Bool := env.all fun (_, v) => clSV n v

def envOK (env : List (Nat × SV)) : List (Nat × SV) → Prop
  | [] => True
  | (t, v) :: r => getE env t = v ∧ envOK env r

theorem envOK_get {env : List (Nat × SV)} : ∀ {env' : List (Nat × SV)}, envOK env env' → ∀ t, getE env' t = .un ∨ getE env' t = getE env t
  | [], _, t => .inl rfl
  | (k, v) :: r, h, t => by
    by_cases e : t = k
    · subst e; rw [show getE ((t, v) :: r) t = v by simp [getE]]; exact .inr h.1.symm
    · rw [show getE ((k, v) :: r) t = getE r t by simp [getE, e]]; exact envOK_get h.2 t

theorem clEnv_get {n : Nat} : ∀ {env : List (Nat × SV)}, clEnv n env = true → ∀ t, clSV n (getE env t) = true
  | [], _, t => rfl
  | (k, v) :: r, h, t => by
    simp only [clEnv, List.all_cons, Bool.and_eq_true] at h
    unfold getE
    by_cases e : t = k
    · rw [if_pos e]; exact h.1
    · rw [if_neg e]; exact clEnv_get h.2 t

section
variable {c : Ctx} {objs gs : Objs} {w : World}

theorem live_drop {o ver : Nat} (hlt : o < objs.length) : Live (objs ++ gs) o ver ↔ Live objs o ver := by
  unfold Live; rw [List.getElem?_append_left hlt]

theorem known_drop {o ver : Nat} (hlt : o < objs.length) (h : Known (objs ++ gs) o ver) : Known objs o ver := by
  unfold Known at h ⊢; rwa [List.getElem?_append_left hlt] at h

theorem ptrIs_drop {o ver off : Nat} {u : Value} (hlt : o < objs.length) (h : PtrIs c (objs ++ gs) o ver off u) : PtrIs c objs o ver off u :=
  ⟨h.1, known_drop hlt h.2.1, fun hl => h.2.2 ((live_drop hlt).2 hl)⟩

theorem relCV_drop {x : CV} {u : Value} (hc : clCV objs.length x = true) (h : RelCV c (objs ++ gs) w x u) : RelCV c objs w x u := by
  cases x with
  | ptr o ver off => exact ptrIs_drop (blt_lt hc) h
  | eptr o ver e i j => exact ptrIs_drop (blt_lt hc) h
  | sl o ver e off len cap =>
    have hlt : o < objs.length := blt_lt hc
    exact ⟨h.1, known_drop hlt h.2.1, fun hl => h.2.2 ((live_drop hlt).2 hl)⟩
  | gsl o ver p e off len =>
    have hlt : o < objs.length := blt_lt hc
    exact ⟨h.1, known_drop hlt h.2.1, fun hl => h.2.2 ((live_drop hlt).2 hl)⟩
  | gptr o ver p e i j =>
    have hlt : o < objs.length := blt_lt hc
    exact ⟨h.1, known_drop hlt h.2.1, fun hl => h.2.2 ((live_drop hlt).2 hl)⟩
  | mp o ver =>
    have hlt : o < objs.length := blt_lt hc
    exact ⟨h.1, known_drop hlt h.2.1, fun hl => h.2.2 ((live_drop hlt).2 hl)⟩
  | fn f caps =>
    obtain ⟨vs, h1, h2, h3⟩ := h
    refine ⟨vs, h1, h2, fun i o ver off hi => ?_⟩
    obtain ⟨u, k1, k2⟩ := h3 i o ver off hi
    have := List.all_eq_true.1 hc _ (List.mem_of_getElem? hi)
    exact ⟨u, k1, ptrIs_drop (blt_lt this) k2⟩
  | _ => exact h

theorem relV1_drop {x : V1} {u : Value} (hc : clV1 objs.length x = true) (h : RelV1 c (objs ++ gs) w x u) : RelV1 c objs w x u := by
  cases x with
  | c x => exact relCV_drop hc h
  | agg xs =>
    obtain ⟨vs, h1, h2, h3⟩ := h
    refine ⟨vs, h1, h2, fun i x hi => ?_⟩
    obtain ⟨u, k1, k2⟩ := h3 i x hi
    exact ⟨u, k1, relCV_drop (List.all_eq_true.1 hc _ (List.mem_of_getElem? hi)) k2⟩

theorem relSV_drop {x : SV} {u : Value} (hc : clSV objs.length x = true) (h : RelSV c (objs ++ gs) w x u) : RelSV c objs w x u := by
  cases x with
  | un => trivial
  | one x => exact relV1_drop hc h
  | tup xs =>
    obtain ⟨vs, h1, h2, h3⟩ := h
    refine ⟨vs, h1, h2, fun i x hi => ?_⟩
    obtain ⟨u, k1, k2⟩ := h3 i x hi
    exact ⟨u, k1, relV1_drop (List.all_eq_true.1 hc _ (List.mem_of_getElem? hi)) k2⟩

theorem own_drop {b : Nat} (h : Own c objs b) : Own c (objs ++ gs) b := by
  obtain ⟨o, ver, bd, h1, h2, h3⟩ := h
  exact ⟨o, ver, bd, by rw [List.getElem?_append_left (List.getElem?_eq_some_iff.1 h1).1]; exact h1, h2, h3⟩

theorem relOB_drop {n : Nat} (hn : n = objs.length) {o : Nat} {bd : OB} (hc : clOB n bd = true) (h : RelOB c (objs ++ gs) w o bd) : RelOB c objs w o bd := by
  subst hn
  induction bd with
  | dead => trivial
  | arr e xs => exact h
  | grid e xs => exact h
  | map n es => exact h
  | fro r b ih => exact ⟨ih h.1 hc, h.2⟩
  | box xs =>
    obtain ⟨b, base, cs, T, h1, h2, h3, h4⟩ := h
    refine ⟨b, base, cs, T, h1, h2, h3, fun i x hi => ?_⟩
    obtain ⟨u, k1, k2⟩ := h4 i x hi
    exact ⟨u, k1, relCV_drop (List.all_eq_true.1 hc _ (List.mem_of_getElem? hi)) k2⟩

theorem relObjs_drop (hc : clObjs objs.length objs = true) (h : RelObjs c (objs ++ gs) w) : RelObjs c objs w := by
  have up : ∀ {o ver : Nat} {bd : OB}, objs[o]? = some (ver, bd) → (objs ++ gs)[o]? = some (ver, bd) := by
    intro o ver bd h1
    rw [List.getElem?_append_left (List.getElem?_eq_some_iff.1 h1).1]; exact h1
  exact ⟨fun o ver bd ho => relOB_drop rfl (List.all_eq_true.1 hc _ (List.mem_of_getElem? ho)) (h.ob o ver bd (up ho)), fun o o' ver ver' bd bd' b h1 h2 h3 h4 => h.inj o o' ver ver' bd bd' b (up h1) h2 (up h3) h4, h.rsize,
    fun o ver bd b h1 h2 h3 => h.lsize o ver bd b (up h1) h2 h3, fun b hb => h.oR b (own_drop hb)⟩
end

/-- At the head of a round: what matters of a state. -/
theorem weak_of {n0 n : Nat} {env env' : List (Nat × SV)} {objs objs' : Objs} (hobj : objs.take objs'.length = objs') (he : envOK env env') (hcl : (clEnv objs'.length env' && clObjs objs'.length objs') = true) (hn : n0 ≤ objs'.length) :
    Weak n0 ⟨env, objs, n⟩ ⟨env', objs', n⟩ := by
  intro c a w hr
  have hsplit : objs = objs' ++ objs.drop objs'.length := by
    have := List.take_append_drop objs'.length objs
    rw [hobj] at this; exact this.symm
  simp only [Bool.and_eq_true] at hcl
  obtain ⟨hc1, hc2⟩ := hcl
  rw [hsplit] at hr
  have hro : RelObjs c (objs' ++ objs.drop objs'.length) w := hr.objs
  refine ⟨c, ?_, ⟨relObjs_drop hc2 hro, fun t ht => ?_, hr.size, hr.defers⟩⟩
  · dsimp only
    rw [hsplit]
    refine ⟨Nat.le_refl _, rfl, rfl, rfl, fun _ _ _ => rfl, fun _ cs _ h => ⟨cs, h, rfl⟩, fun b hb => .inl (own_drop hb), fun _ h => h, fun _ h => .inl h, fun o cur bd ho h => ?_⟩
    rw [List.getElem?_append_left (by omega)] at h
    exact ⟨cur, bd, h, Nat.le_refl _, fun _ h => ⟨h, rfl, fun _ _ h => h⟩⟩
  · obtain ⟨u, k1, k2⟩ := hr.env t ht
    refine ⟨u, k1, ?_⟩
    rcases envOK_get he t with h1 | h1
    · show RelSV c objs' w (getE env' t) u
      rw [h1]; trivial
    · show RelSV c objs' w (getE env' t) u
      refine relSV_drop (gs := objs.drop objs'.length) (clEnv_get hc1 t) ?_
      rw [h1]; exact k2

theorem weak_same {n0 n : Nat} {env env' : List (Nat × SV)} {objs objs' : Objs} (ho : objs = objs') (he : envOK env env') : Weak n0 ⟨env, objs, n⟩ ⟨env', objs', n⟩ := by
  subst ho
  intro c a w hr
  refine ⟨c, Ext.refl _ _ _ _, ⟨hr.objs, fun t ht => ?_, hr.size, hr.defers⟩⟩
  obtain ⟨u, k1, k2⟩ := hr.env t ht
  refine ⟨u, k1, ?_⟩
  rcases envOK_get he t with h1 | h1
  · show RelSV c objs w (getE env' t) u
    rw [h1]; trivial
  · show RelSV c objs w (getE env' t) u
    rw [h1]; exact k2

/-- Rows that a law has marked. -/
def mk3 (k : Int) (n : Nat) : List (Int × Int × Int) := (List.range n).map fun i : Nat => (k + 3 * (i : Int), k + 3 * (i : Int) + 1, k + 3 * (i : Int) + 2)

/-- Rows of three numbers. -/
def r3 (x : Int × Int × Int) : List DC := [dI x.1, dI x.2.1, dI x.2.2]

theorem r3_get {l : List (Int × Int × Int)} {i : Nat} {x : List DC} (h : (l.map r3)[i]? = some x) : ∃ k a b, l[i]? = some (k, a, b) ∧ x = [dI k, dI a, dI b] := by
  simp only [List.getElem?_map, Option.map_eq_some_iff] at h
  obtain ⟨⟨k, a, b⟩, h1, rfl⟩ := h
  exact ⟨k, a, b, h1, rfl⟩

theorem r3_flat {l : List (Int × Int × Int)} : ∀ y ∈ l.map r3, ∀ d ∈ y, flatDC d := by
  intro y hy d hd
  obtain ⟨x, _, rfl⟩ := List.mem_map.1 hy
  simp only [r3, List.mem_cons, List.not_mem_nil, or_false] at hd
  rcases hd with rfl | rfl | rfl <;> trivial

/-- A row that is being filled, one element farther. -/
theorem fill_set {α β : Type} {f : α → β} {l : List α} {z : β} {i : Nat} {y : α} (h : l[i]? = some y) :
    ((l.take i).map f ++ List.replicate (l.length - i) z).set i (f y) = (l.take (i + 1)).map f ++ List.replicate (l.length - (i + 1)) z := by
  obtain ⟨hi, h⟩ := List.getElem?_eq_some_iff.1 h
  have hl : ((l.take i).map f).length = i := by simp; omega
  rw [List.set_append_right _ _ (by omega), hl, Nat.sub_self, show l.length - i = (l.length - (i + 1)) + 1 by omega, List.replicate_succ, List.set_cons_zero, List.take_add_one, List.getElem?_eq_getElem hi, h]
  simp

theorem fill_all {α β : Type} {f : α → β} {l : List α} {z : β} {i : Nat} (h : l.length ≤ i) : (l.take i).map f ++ List.replicate (l.length - i) z = l.map f := by
  rw [List.take_of_length_le h, show l.length - i = 0 by omega]; simp

/-- What a filled row of its own hands back. -/
theorem res_row {ver e : Nat} {xs : List (List DC)} {cap : Option Nat} {objs : Objs} {o n : Nat} (ho : objs[o]? = some (ver, .arr e xs)) (hn : n = xs.length) (hf : ∀ y ∈ xs, ∀ d ∈ y, flatDC d) :
    ResOK objs [.c (.sl o ver e 0 n cap)] [.c (.list e xs)] := by
  subst hn
  refine ⟨⟨?_, trivial⟩, by simp [refVs, refCV]⟩
  simp only [resCell, objAt, ho, if_true]
  exact ⟨trivial, trivial, by omega, by simp, hf⟩

theorem res_cell {ver e : Nat} {xs : List (List DC)} {cap : Option Nat} {objs : Objs} {o n : Nat} (ho : objAt objs o ver = some (.arr e xs)) (hn : n = xs.length) (hf : ∀ y ∈ xs, ∀ d ∈ y, flatDC d) :
    resCell objs (.sl o ver e 0 n cap) (.list e xs) := by
  subst hn
  simp only [resCell, ho]
  exact ⟨trivial, trivial, by omega, by simp, hf⟩

theorem set_get {α : Type} {l : List α} {i : Nat} {x y : α} (h : (l.set i y)[i]? = some x) : x = y := by
  by_cases hi : i < l.length
  · rw [List.getElem?_set_self hi] at h; exact (Option.some.inj h).symm
  · rw [List.getElem?_eq_none (by simp; omega)] at h; cases h

theorem wrap_len {n : Nat} (h : n ≤ 2 ^ 60) : IntKind.i64.wrap (n : Int) = n := wrap_i64 _ (by omega) (by omega)

end Go.Proofs.Ytmfdkjjhdjkgpaa

namespace Go.Proofs.Ytmfdkjjhdjkgpaa
open Go Go.RowKit

/-- An object that leads to no other one. -/
def plainOB : OB → Bool
  | .arr _ _ => true
  | .grid _ _ => true
  | .map _ _ => true
  | _ => false

theorem plainOB.mine {bd : OB} (h : plainOB bd = true) : bd.mine = true := by cases bd <;> first | rfl | cases h

/-- A value that leads to no object. -/
def dataCV : CV → Bool
  | .d _ => true
  | .nilsl => true
  | .esl => true
  | _ => false

def dataV1 : V1 → Bool
  | .c x => dataCV x
  | .agg xs => xs.all dataCV

def dataSV : SV → Bool
  | .un => true
  | .one x => dataV1 x
  | .tup xs => xs.all dataV1

section data
variable {c c' : Ctx} {objs objs' : Objs} {w : World}

theorem relCV_data {x : CV} {v : Value} (hx : dataCV x = true) (hR : ∀ b, c.R b → c'.R b) (h : RelCV c objs w x v) : RelCV c' objs' w x v := by
  cases x with
  | d x => exact Rep.mono hR (fun _ _ => rfl) h
  | nilsl => exact h
  | esl => exact h
  | _ => cases hx

theorem relV1_data {x : V1} {v : Value} (hx : dataV1 x = true) (hR : ∀ b, c.R b → c'.R b) (h : RelV1 c objs w x v) : RelV1 c' objs' w x v := by
  cases x with
  | c x => exact relCV_data hx hR h
  | agg xs =>
    obtain ⟨vs, h1, h2, h3⟩ := h
    refine ⟨vs, h1, h2, fun i x hi => ?_⟩
    obtain ⟨u, k1, k2⟩ := h3 i x hi
    exact ⟨u, k1, relCV_data (List.all_eq_true.1 hx _ (List.mem_of_getElem? hi)) hR k2⟩

theorem relSV_data {x : SV} {v : Value} (hx : dataSV x = true) (hR : ∀ b, c.R b → c'.R b) (h : RelSV c objs w x v) : RelSV c' objs' w x v := by
  cases x with
  | un => trivial
  | one x => exact relV1_data hx hR h
  | tup xs =>
    obtain ⟨vs, h1, h2, h3⟩ := h
    refine ⟨vs, h1, h2, fun i x hi => ?_⟩
    obtain ⟨u, k1, k2⟩ := h3 i x hi
    exact ⟨u, k1, relV1_data (List.all_eq_true.1 hx _ (List.mem_of_getElem? hi)) hR k2⟩

theorem relOB_plain {o o' : Nat} {bd : OB} (hp : plainOB bd = true) (hφ : c'.φ o' = c.φ o) (hψ : c'.ψ o' = c.ψ o) (hR : ∀ b, c.R b → c'.R b) (h : RelOB c objs w o bd) : RelOB c' objs' w o' bd := by
  cases bd with
  | arr e xs =>
    rcases h with ⟨h1, h2⟩ | ⟨b, base, cs, T, h1, h2, h3, h4, h5⟩
    · exact .inl ⟨hφ.trans h1, h2⟩
    · exact .inr ⟨b, base, cs, T, hφ.trans h1, h2, h3, h4, fun i j d hd => by obtain ⟨u, k1, k2⟩ := h5 i j d hd; exact ⟨u, k1, k2.mono hR (fun _ _ => rfl)⟩⟩
  | grid e xs =>
    obtain ⟨b, base, cs, T, h1, h2, h3, h4, h5, h6, h7⟩ := h
    refine ⟨b, base, cs, T, hφ.trans h1, h2, h3, h4, fun i j g hg => ?_, by rw [hψ]; exact h6, by rw [hψ]; exact h7⟩
    obtain ⟨u, k1, k2⟩ := h5 i j g hg
    refine ⟨u, k1, ?_⟩
    cases g with
    | d x => exact Rep.mono hR (fun _ _ => rfl) k2
    | row e ys =>
      obtain ⟨a, cp, m1, m2, m3, m4⟩ := k2
      refine ⟨a, cp, m1, m2, m3, fun h0 => ?_⟩
      rw [hψ]
      obtain ⟨b1, base1, cs1, T1, n1, n2, n3, n4, n5⟩ := m4 h0
      exact ⟨b1, base1, cs1, T1, n1, n2, n3, n4, fun i j d hd => by obtain ⟨u, k1, k2⟩ := n5 i j d hd; exact ⟨u, k1, k2.mono hR (fun _ _ => rfl)⟩⟩
  | map n es =>
    obtain ⟨b, base, ents, clock, h1, h2, h3, h4, h5, h6⟩ := h
    refine ⟨b, base, ents, clock, hφ.trans h1, h2, h3, h4, h5, fun i k v hi => ?_⟩
    obtain ⟨en, k1, k2, k3⟩ := h6 i k v hi
    refine ⟨en, k1, k2, ?_⟩
    cases v with
    | c x => exact Rep.mono hR (fun _ _ => rfl) k3
    | agg xs =>
      obtain ⟨vs, m1, m2, m3⟩ := k3
      exact ⟨vs, m1, m2, fun i x hi => by obtain ⟨u, n1, n2⟩ := m3 i x hi; exact ⟨u, n1, n2.mono hR (fun _ _ => rfl)⟩⟩
  | _ => cases hp
end data

/-- A cell that leads to object 0 of version 0, and the same of object o. -/
inductive RenC (o ver : Nat) : CV → CV → Prop
  | data {x : CV} : dataCV x = true → RenC o ver x x
  | sl {e off len : Nat} {cap : Option Nat} : RenC o ver (.sl 0 0 e off len cap) (.sl o ver e off len cap)
  | mp : RenC o ver (.mp 0 0) (.mp o ver)

inductive RenCs (o ver : Nat) : List CV → List CV → Prop
  | nil : RenCs o ver [] []
  | cons {x y : CV} {r s : List CV} : RenC o ver x y → RenCs o ver r s → RenCs o ver (x :: r) (y :: s)

inductive Ren1 (o ver : Nat) : V1 → V1 → Prop
  | c {x y : CV} : RenC o ver x y → Ren1 o ver (.c x) (.c y)
  | agg {xs ys : List CV} : RenCs o ver xs ys → Ren1 o ver (.agg xs) (.agg ys)

inductive Rens (o ver : Nat) : List V1 → List V1 → Prop
  | nil : Rens o ver [] []
  | cons {x y : V1} {r s : List V1} : Ren1 o ver x y → Rens o ver r s → Rens o ver (x :: r) (y :: s)

/-- An object that is none of those that are lent, not written, and may be. -/
def okF : OB → Bool
  | .fro true _ => true
  | .dead => true
  | b => b.mine

/-- Lent, not to be written. -/
def frz (x : Nat × OB) : Nat × OB := (x.1, if x.2.mine then .fro false x.2 else x.2)

theorem frz_get {objs : Objs} {o : Nat} : (objs.map frz)[o]? = (objs[o]?).map frz := by simp

theorem live_frz {objs : Objs} {o ver : Nat} : Live (objs.map frz) o ver ↔ Live objs o ver := by
  unfold Live
  rw [frz_get]
  constructor
  · rintro ⟨b, h1, h2⟩
    simp only [Option.map_eq_some_iff] at h1
    obtain ⟨⟨v, b'⟩, h3, h4⟩ := h1
    simp only [frz, Prod.mk.injEq] at h4
    obtain ⟨rfl, rfl⟩ := h4
    refine ⟨b', h3, ?_⟩
    rintro rfl
    simp at h2
  · rintro ⟨b, h1, h2⟩
    refine ⟨if b.mine then .fro false b else b, by rw [h1]; rfl, ?_⟩
    split
    · simp
    · exact h2

theorem known_frz {objs : Objs} {o ver : Nat} : Known (objs.map frz) o ver ↔ Known objs o ver := by
  unfold Known
  rw [frz_get]
  constructor
  · rintro ⟨cur, b, h1, h2⟩
    simp only [Option.map_eq_some_iff] at h1
    obtain ⟨⟨v, b'⟩, h3, h4⟩ := h1
    simp only [frz, Prod.mk.injEq] at h4
    obtain ⟨rfl, rfl⟩ := h4
    exact ⟨v, b', h3, h2⟩
  · rintro ⟨cur, b, h1, h2⟩
    exact ⟨cur, _, by rw [h1]; rfl, h2⟩

theorem relCV_frz {c : Ctx} {objs : Objs} {w : World} {x : CV} {v : Value} (h : RelCV c objs w x v) : RelCV c (objs.map frz) w x v := by
  cases x with
  | d x => exact h
  | nilsl => exact h
  | esl => exact h
  | ip e xs i j => exact h
  | ptr o ver off => exact ⟨h.1, known_frz.2 h.2.1, fun hl => h.2.2 (live_frz.1 hl)⟩
  | eptr o ver e i j => exact ⟨h.1, known_frz.2 h.2.1, fun hl => h.2.2 (live_frz.1 hl)⟩
  | sl o ver e off len cap => exact ⟨h.1, known_frz.2 h.2.1, fun hl => h.2.2 (live_frz.1 hl)⟩
  | gsl o ver p e off len => exact ⟨h.1, known_frz.2 h.2.1, fun hl => h.2.2 (live_frz.1 hl)⟩
  | gptr o ver p e i j => exact ⟨h.1, known_frz.2 h.2.1, fun hl => h.2.2 (live_frz.1 hl)⟩
  | mp o ver => exact ⟨h.1, known_frz.2 h.2.1, fun hl => h.2.2 (live_frz.1 hl)⟩
  | fn f caps =>
    obtain ⟨vs, h1, h2, h3⟩ := h
    refine ⟨vs, h1, h2, fun i o ver off hi => ?_⟩
    obtain ⟨u, k1, k2⟩ := h3 i o ver off hi
    exact ⟨u, k1, k2.1, known_frz.2 k2.2.1, fun hl => k2.2.2 (live_frz.1 hl)⟩

theorem relV1_frz {c : Ctx} {objs : Objs} {w : World} {x : V1} {v : Value} (h : RelV1 c objs w x v) : RelV1 c (objs.map frz) w x v := by
  cases x with
  | c x => exact relCV_frz h
  | agg xs =>
    obtain ⟨vs, h1, h2, h3⟩ := h
    exact ⟨vs, h1, h2, fun i x hi => by obtain ⟨u, k1, k2⟩ := h3 i x hi; exact ⟨u, k1, relCV_frz k2⟩⟩

theorem relOB_frz {c : Ctx} {objs : Objs} {w : World} {o : Nat} {bd : OB} (h : RelOB c objs w o bd) : RelOB c (objs.map frz) w o bd := by
  induction bd with
  | dead => trivial
  | arr e xs => exact h
  | grid e xs => exact h
  | map n es => exact h
  | fro r b ih => exact ⟨ih h.1, h.2⟩
  | box xs =>
    obtain ⟨b, base, cs, T, h1, h2, h3, h4⟩ := h
    exact ⟨b, base, cs, T, h1, h2, h3, fun i x hi => by obtain ⟨u, k1, k2⟩ := h4 i x hi; exact ⟨u, k1, relCV_frz k2⟩⟩

/-- A callee, by its text, that writes nothing of its caller's. -/
theorem callP_frz {P : Program} {f : FuncId} {args : List V1} {objs : Objs} {K0 K : SV → Objs → Prop} (h : CallX P f args (objs.map frz) K0) (hK : ∀ sv objs1, K0 sv objs1 → dataSV sv = true ∧ K sv objs) : CallP P f args objs K := by
  refine ⟨h.enter, fun c w vals hr hl hv => ?_⟩
  have hno : ∀ b, ¬ Own c (objs.map frz) b := by
    rintro b ⟨o, ver, bd, h1, h2, _⟩
    rw [frz_get] at h1
    simp only [Option.map_eq_some_iff] at h1
    obtain ⟨⟨v, b'⟩, _, h4⟩ := h1
    simp only [frz, Prod.mk.injEq] at h4
    obtain ⟨rfl, rfl⟩ := h4
    split at h2
    · cases h2
    · rename_i hh; exact hh h2
  have hrF : RelObjs c (objs.map frz) w := by
    refine ⟨fun o ver bd h1 => ?_, fun o1 o2 v1 v2 b1 b2 b h1 d1 _ _ p1 _ => (hno b ⟨o1, v1, b1, h1, d1, p1⟩).elim, hr.rsize, fun o ver bd b h1 h2 h3 => ?_, fun b hb => (hno b hb).elim⟩
    · rw [frz_get] at h1
      simp only [Option.map_eq_some_iff] at h1
      obtain ⟨⟨v, b'⟩, h3, h4⟩ := h1
      simp only [frz, Prod.mk.injEq] at h4
      obtain ⟨rfl, rfl⟩ := h4
      split
      · exact ⟨relOB_frz (hr.ob _ _ _ h3), fun h => by cases h⟩
      · exact relOB_frz (hr.ob _ _ _ h3)
    · have hlv : Live (objs.map frz) o ver := ⟨bd, h1, h2⟩
      obtain ⟨b', k1, k2⟩ := live_frz.1 hlv
      exact hr.lsize o ver b' b k1 k2 h3
  refine (h.calls c w vals hrF hl (fun i x hx => by obtain ⟨u, k1, k2⟩ := hv i x hx; exact ⟨u, k1, relV1_frz k2⟩)).mono ?_
  rintro e w' ⟨v, c', objs1, sv, rfl, hE, hr1, hsv, hk⟩
  obtain ⟨hdata, hKK⟩ := hK sv objs1 hk
  have hkeep : ∀ b, b < w.heap.size → w'.heap[b]? = w.heap[b]? := fun b hb => hE.keep b hb (hno b)
  have hRd : ∀ b, c'.R b → c.R b ∨ w.heap.size ≤ b := by
    intro b hb
    rcases hE.rdown b hb with h | h | h
    · exact .inl h
    · exact (hno b h).elim
    · exact .inr h
  have hE2 : Ext objs.length c objs w { c with R := c'.R } objs w' :=
    ⟨hE.size, hE.tape, hE.os, hE.output, fun b hb _ => hkeep b hb, hE.shape, fun b hb => .inl hb, hE.rup, fun b hb => (hRd b hb).imp id .inr, fun o cur bd _ h => ⟨cur, bd, h, Nat.le_refl _, fun _ h => ⟨h, rfl, fun _ _ h => h⟩⟩⟩
  refine ⟨v, { c with R := c'.R }, objs, sv, rfl, ⟨hE.size, hkeep⟩, hE2, ⟨fun o ver bd h1 => ?_, hr.inj, hr1.rsize, fun o ver bd b h1 h2 h3 => Nat.lt_of_lt_of_le (hr.lsize o ver bd b h1 h2 h3) hE.size, fun b hb hR => ?_⟩, relSV_data (c := c') hdata (fun _ h => h) hsv, hKK⟩
  · by_cases hdead : bd = .dead
    · subst hdead; exact trivial
    · exact RelOB.keep hE2 (Nat.le_refl _) hr rfl rfl (fun b hb => hkeep b (hr.lsize o ver bd b h1 hdead hb)) (hr.ob o ver bd h1)
  · rcases hRd b hR with h | h
    · exact hr.oR b hb h
    · have := (hr.osize b hb).1; omega

/-- Data, or a reference to one of the first n objects. -/
def refCV' (n : Nat) : CV → Bool
  | .d _ => true
  | .nilsl => true
  | .esl => true
  | .ip _ _ _ _ => true
  | .sl o _ _ _ _ _ => Nat.blt o n
  | .ptr o _ _ => Nat.blt o n
  | .eptr o _ _ _ _ => Nat.blt o n
  | .mp o _ => Nat.blt o n
  | _ => false

def refV1' (n : Nat) : V1 → Bool
  | .c x => refCV' n x
  | .agg xs => xs.all (refCV' n)

def refSV' (n : Nat) : SV → Bool
  | .un => true
  | .one x => refV1' n x
  | .tup xs => xs.all (refV1' n)

theorem relCV_back {n : Nat} {c c' : Ctx} {objs objs1 : Objs} {w' : World} (hn : n = objs.length) (hR : ∀ b, c'.R b → c.R b) (hs : samePre n objs objs1 = true)
    (hφ : ∀ (o ver : Nat) (bd bd' : OB), objs[o]? = some (ver, bd) → objs1[o]? = some (ver, bd') → bd' ≠ .dead → c'.φ o = c.φ o) {x : CV} {v : Value} (hx : refCV' n x = true) (h : RelCV c' objs1 w' x v) : RelCV c objs w' x v := by
  have key : ∀ {o ver : Nat}, o < n → Known objs1 o ver → Known objs o ver ∧ (Live objs o ver → Live objs1 o ver ∧ c'.φ o = c.φ o) := by
    intro o ver ho hk
    obtain ⟨x, hx⟩ : ∃ x, objs[o]? = some x := ⟨objs[o], List.getElem?_eq_getElem (by omega)⟩
    obtain ⟨v0, b0⟩ := x
    obtain ⟨bd', h1, h2⟩ := samePre_get hs ho hx
    obtain ⟨cur, b, k1, k2⟩ := hk
    rw [h1] at k1
    obtain ⟨rfl, rfl⟩ : v0 = cur ∧ bd' = b := by simpa using k1
    refine ⟨⟨_, _, hx, k2⟩, ?_⟩
    rintro ⟨b1, m1, m2⟩
    rw [hx] at m1
    obtain ⟨rfl, rfl⟩ : v0 = ver ∧ b0 = b1 := by simpa using m1
    exact ⟨⟨_, h1, h2⟩, hφ o v0 b0 bd' hx h1 h2⟩
  have lt : ∀ {o : Nat}, Nat.blt o n = true → o < n := fun h => by simpa [Nat.blt_eq] using h
  cases x with
  | d x => exact Rep.mono hR (fun _ _ => rfl) h
  | nilsl => exact h
  | esl => exact h
  | ip e xs i j =>
    obtain ⟨b, off, u, h1, h2⟩ := h
    exact ⟨b, off, u, Rep.mono hR (fun _ _ => rfl) h1, h2⟩
  | ptr o ver off =>
    obtain ⟨h1, h2, h3⟩ := h
    obtain ⟨k1, k2⟩ := key (lt hx) h2
    refine ⟨h1, k1, fun hl => ?_⟩
    obtain ⟨l1, l2⟩ := k2 hl
    rw [← l2]; exact h3 l1
  | eptr o ver e i j =>
    obtain ⟨h1, h2, h3⟩ := h
    obtain ⟨k1, k2⟩ := key (lt hx) h2
    refine ⟨h1, k1, fun hl => ?_⟩
    obtain ⟨l1, l2⟩ := k2 hl
    rw [← l2]; exact h3 l1
  | mp o ver =>
    obtain ⟨h1, h2, h3⟩ := h
    obtain ⟨k1, k2⟩ := key (lt hx) h2
    refine ⟨h1, k1, fun hl => ?_⟩
    obtain ⟨l1, l2⟩ := k2 hl
    rw [← l2]; exact h3 l1
  | sl o ver e off len cap =>
    obtain ⟨h1, h2, h3⟩ := h
    obtain ⟨k1, k2⟩ := key (lt hx) h2
    refine ⟨h1, k1, fun hl => ?_⟩
    obtain ⟨l1, l2⟩ := k2 hl
    rw [← l2]; exact h3 l1
  | gsl o ver p e off len => cases hx
  | gptr o ver p e i j => cases hx
  | fn f caps => cases hx

/-- A callee, by its text, that writes nothing of its caller's and hands back what refers to its caller's. -/
theorem callP_ret {P : Program} {f : FuncId} {args : List V1} {objs : Objs} {K0 K : SV → Objs → Prop} (h : CallX P f args (objs.map frz) K0)
    (hK : ∀ sv objs1, K0 sv objs1 → (refSV' objs.length sv && samePre objs.length objs objs1) = true ∧ K sv objs) : CallP P f args objs K := by
  refine ⟨h.enter, fun c w vals hr hl hv => ?_⟩
  have hno : ∀ b, ¬ Own c (objs.map frz) b := by
    rintro b ⟨o, ver, bd, h1, h2, _⟩
    rw [frz_get] at h1
    simp only [Option.map_eq_some_iff] at h1
    obtain ⟨⟨v, b'⟩, _, h4⟩ := h1
    simp only [frz, Prod.mk.injEq] at h4
    obtain ⟨rfl, rfl⟩ := h4
    split at h2
    · cases h2
    · rename_i hh; exact hh h2
  have hrF : RelObjs c (objs.map frz) w := by
    refine ⟨fun o ver bd h1 => ?_, fun o1 o2 v1 v2 b1 b2 b h1 d1 _ _ p1 _ => (hno b ⟨o1, v1, b1, h1, d1, p1⟩).elim, hr.rsize, fun o ver bd b h1 h2 h3 => ?_, fun b hb => (hno b hb).elim⟩
    · rw [frz_get] at h1
      simp only [Option.map_eq_some_iff] at h1
      obtain ⟨⟨v, b'⟩, h3, h4⟩ := h1
      simp only [frz, Prod.mk.injEq] at h4
      obtain ⟨rfl, rfl⟩ := h4
      split
      · exact ⟨relOB_frz (hr.ob _ _ _ h3), fun h => by cases h⟩
      · exact relOB_frz (hr.ob _ _ _ h3)
    · have hlv : Live (objs.map frz) o ver := ⟨bd, h1, h2⟩
      obtain ⟨b', k1, k2⟩ := live_frz.1 hlv
      exact hr.lsize o ver b' b k1 k2 h3
  refine (h.calls c w vals hrF hl (fun i x hx => by obtain ⟨u, k1, k2⟩ := hv i x hx; exact ⟨u, k1, relV1_frz k2⟩)).mono ?_
  rintro e w' ⟨v, c', objs1, sv, rfl, hE, hr1, hsv, hk⟩
  obtain ⟨href, hKK⟩ := hK sv objs1 hk
  rw [Bool.and_eq_true] at href
  obtain ⟨href, hsame⟩ := href
  have hkeep : ∀ b, b < w.heap.size → w'.heap[b]? = w.heap[b]? := fun b hb => hE.keep b hb (hno b)
  have hRd : ∀ b, c'.R b → c.R b ∨ w.heap.size ≤ b := by
    intro b hb
    rcases hE.rdown b hb with h | h | h
    · exact .inl h
    · exact (hno b h).elim
    · exact .inr h
  have hE2 : Ext objs.length c objs w { c with R := c'.R } objs w' :=
    ⟨hE.size, hE.tape, hE.os, hE.output, fun b hb _ => hkeep b hb, hE.shape, fun b hb => .inl hb, hE.rup, fun b hb => (hRd b hb).imp id .inr, fun o cur bd _ h => ⟨cur, bd, h, Nat.le_refl _, fun _ h => ⟨h, rfl, fun _ _ h => h⟩⟩⟩
  have back : ∀ {x : CV} {u : Value}, refCV' objs.length x = true → RelCV c' objs1 w' x u → RelCV { c with R := c'.R } objs w' x u := fun hx hu =>
    relCV_back (c := { c with R := c'.R }) (c' := c') rfl (fun _ h => h) hsame (fun o ver bd bd' h1 h2 h3 => by
      have hlt : o < objs.length := (List.getElem?_eq_some_iff.1 h1).1
      obtain ⟨cur', bd'', g1, g2, g3⟩ := hE.refs o ver (frz (ver, bd)).2 (by simpa using hlt) (by rw [frz_get, h1]; rfl)
      rw [h2] at g1
      obtain ⟨rfl, rfl⟩ : ver = cur' ∧ bd' = bd'' := by simpa using g1
      exact (g3 rfl h3).2.1) hx hu
  have back1 : ∀ {x : V1} {u : Value}, refV1' objs.length x = true → RelV1 c' objs1 w' x u → RelV1 { c with R := c'.R } objs w' x u := by
    intro x u hx hu
    cases x with
    | c x => exact back hx hu
    | agg xs =>
      obtain ⟨vs, h1, h2, h3⟩ := hu
      refine ⟨vs, h1, h2, fun i x hi => ?_⟩
      obtain ⟨u, k1, k2⟩ := h3 i x hi
      exact ⟨u, k1, back (List.all_eq_true.1 hx x (List.mem_of_getElem? hi)) k2⟩
  have backS : RelSV { c with R := c'.R } objs w' sv v := by
    cases sv with
    | un => trivial
    | one x => exact back1 href hsv
    | tup xs =>
      obtain ⟨vs, h1, h2, h3⟩ := hsv
      refine ⟨vs, h1, h2, fun i x hi => ?_⟩
      obtain ⟨u, k1, k2⟩ := h3 i x hi
      exact ⟨u, k1, back1 (List.all_eq_true.1 href x (List.mem_of_getElem? hi)) k2⟩
  refine ⟨v, { c with R := c'.R }, objs, sv, rfl, ⟨hE.size, hkeep⟩, hE2, ⟨fun o ver bd h1 => ?_, hr.inj, hr1.rsize, fun o ver bd b h1 h2 h3 => Nat.lt_of_lt_of_le (hr.lsize o ver bd b h1 h2 h3) hE.size, fun b hb hR => ?_⟩, backS, hKK⟩
  · by_cases hdead : bd = .dead
    · subst hdead; exact trivial
    · exact RelOB.keep hE2 (Nat.le_refl _) hr rfl rfl (fun b hb => hkeep b (hr.lsize o ver bd b h1 hdead hb)) (hr.ob o ver bd h1)
  · rcases hRd b hR with h | h
    · exact hr.oR b hb h
    · have := (hr.osize b hb).1; omega

theorem callP_text {P : Program} {f : FuncId} {args : List V1} {objs : Objs} {K : SV → Objs → Prop} (h : CallX P f args (objs.map frz) (fun sv objs1 => chkP ((refSV' objs.length sv && samePre objs.length objs objs1) = true) <| K sv objs)) : CallP P f args objs K :=
  callP_ret h fun _ _ hk => chkP_iff.1 hk

/-- A call whose callee's answer is looked at more closely. -/
theorem CallX.imp {P : Program} {f : FuncId} {args : List V1} {objs : Objs} {K K' : SV → Objs → Prop} (h : CallX P f args objs K) (g : ∀ sv objs', K sv objs' → K' sv objs') : CallX P f args objs K' :=
  ⟨h.enter, fun c w vals h1 h2 h3 => (h.calls c w vals h1 h2 h3).mono fun _ _ ⟨v, c', objs', sv, e, k1, k2, k3, k4⟩ => ⟨v, c', objs', sv, e, k1, k2, k3, g _ _ k4⟩⟩

/-- What a callee hands back, with its own rows as data. -/
theorem CallX.freeze {P : Program} {f : FuncId} {args : List V1} {objs : Objs} {K K' : SV → Objs → Prop} (h : CallX P f args objs K)
    (g : ∀ sv objs', K sv objs' → ∃ x d objs2, sv = .one x ∧ freezeVOK objs' x ∧ freezeV objs' x = some (d, objs2) ∧ K' (.one (dvX d)) objs2) : CallX P f args objs K' := by
  refine ⟨h.enter, fun c w vals h1 h2 h3 => (h.calls c w vals h1 h2 h3).mono ?_⟩
  rintro _ w' ⟨v, c', objs', sv, e, k1, k2, k3, k4⟩
  obtain ⟨x, d, objs2, rfl, m1, m2, m3⟩ := g sv objs' k4
  obtain ⟨c2, hE, hr, hd, _⟩ := run_freezeV k2 m2 m1 k3
  exact ⟨v, c2, objs2, .one (dvX d), e, k1.trans hE k1.len0, hr, rel_dvX hd, m3⟩

/-- What a callee leaves behind the objects that matter. -/
theorem callX_tail {P : Program} {f : FuncId} {args : List V1} {objs : Objs} {K0 K : SV → Objs → Prop} (h : CallX P f args objs K0)
    (hK : ∀ sv objs1, K0 sv objs1 → ∃ t gs, objs1 = t ++ gs ∧ objs.length ≤ t.length ∧ (clSV t.length sv && clObjs t.length t) = true ∧ K sv t) : CallX P f args objs K := by
  refine ⟨h.enter, fun c w vals h1 h2 h3 => (h.calls c w vals h1 h2 h3).mono ?_⟩
  rintro _ w' ⟨v, c', objs1, sv, e, hE, hr, hsv, hk⟩
  obtain ⟨t, gs, rfl, hl, hcl, hKK⟩ := hK sv objs1 hk
  simp only [Bool.and_eq_true] at hcl
  refine ⟨v, c', t, sv, e, ⟨hE.size, hE.tape, hE.os, hE.output, hE.keep, hE.shape, fun b hb => hE.own b (own_drop hb), hE.rup, hE.rdown, fun o cur bd ho hob => ?_⟩, relObjs_drop hcl.2 hr, relSV_drop hcl.1 hsv, hKK⟩
  obtain ⟨cur', bd', k1, k2, k3⟩ := hE.refs o cur bd ho hob
  rw [List.getElem?_append_left (by omega)] at k1
  exact ⟨cur', bd', k1, k2, k3⟩

end Go.Proofs.Ytmfdkjjhdjkgpaa

/- Loops: what is told of a state at the head of a round. -/
import Derived.Test.YtbmaofepmheeeaaKo
namespace Go.Proofs.Ytbmaofepmheeeaa
open Go Go.RowKit

theorem blt_lt {a b : Nat} (h : Nat.blt a b = true) : a < b := by rwa [Nat.blt_eq] at h

def clCV (n : Nat) : CV → Bool
  | .ptr o _ _ => Nat.blt o n
  | .eptr o _ _ _ _ => Nat.blt o n
  | .sl o _ _ _ _ _ => Nat.blt o n
  | .gsl o _ _ _ _ _ => Nat.blt o n
  | .gptr o _ _ _ _ _ => Nat.blt o n
  | .mp o _ => Nat.blt o n
  | .fn _ caps => caps.all fun (o, _, _) => Nat.blt o n
  | _ => true

def clV1 (n : Nat) : V1 → Bool
  | .c x => clCV n x
  | .agg xs => xs.all (clCV n)

def clSV (n : Nat) : SV → Bool
  | .un => true
  | .one x => clV1 n x
  | .tup xs => xs.all (clV1 n)

def clOB (n : Nat) : OB → Bool
  | .box xs => xs.all (clCV n)
  | .fro _ b => clOB n b
  | _ => true

def clObjs (n : Nat) (objs : Objs) : Bool := objs.all fun (_, b) => clOB n b

def clEnv (n : Nat) (env : List (Nat × SV)) : Bool := env.all fun (_, v) => clSV n v

def envOK (env : List (Nat × SV)) : List (Nat × SV) → Prop
  | [] => True
  | (t, v) :: r => getE env t = v ∧ envOK env r

theorem envOK_get {env : List (Nat × SV)} : ∀ {env' : List (Nat × SV)}, envOK env env' → ∀ t, getE env' t = .un ∨ getE env' t = getE env t
  | [], _, t => .inl rfl
  | (k, v) :: r, h, t => by
    by_cases e : t = k
    · subst e; rw [show getE ((t, v) :: r) t = v by simp [getE]]; exact .inr h.1.symm
    · rw [show getE ((k, v) :: r) t = getE r t by simp [getE, e]]; exact envOK_get h.2 t

theorem clEnv_get {n : Nat} : ∀ {env : List (Nat × SV)}, clEnv n env = true → ∀ t, clSV n (getE env t) = true
  | [], _, t => rfl
  | (k, v) :: r, h, t => by
    simp only [clEnv, List.all_cons, Bool.and_eq_true] at h
    unfold getE
    by_cases e : t = k
    · rw [if_pos e]; exact h.1
    · rw [if_neg e]; exact clEnv_get h.2 t

section
variable {c : Ctx} {objs gs : Objs} {w : World}

theorem live_drop {o ver : Nat} (hlt : o < objs.length) : Live (objs ++ gs) o ver ↔ Live objs o ver := by
  unfold Live; rw [List.getElem?_append_left hlt]

theorem known_drop {o ver : Nat} (hlt : o < objs.length) (h : Known (objs ++ gs) o ver) : Known objs o ver := by
  unfold Known at h ⊢; rwa [List.getElem?_append_left hlt] at h

theorem ptrIs_drop {o ver off : Nat} {u : Value} (hlt : o < objs.length) (h : PtrIs c (objs ++ gs) o ver off u) : PtrIs c objs o ver off u :=
  ⟨h.1, known_drop hlt h.2.1, fun hl => h.2.2 ((live_drop hlt).2 hl)⟩

theorem relCV_drop {x : CV} {u : Value} (hc : clCV objs.length x = true) (h : RelCV c (objs ++ gs) w x u) : RelCV c objs w x u := by
  cases x with
  | ptr o ver off => exact ptrIs_drop (blt_lt hc) h
  | eptr o ver e i j => exact ptrIs_drop (blt_lt hc) h
  | sl o ver e off len cap =>
    have hlt : o < objs.length := blt_lt hc
    exact ⟨h.1, known_drop hlt h.2.1, fun hl => h.2.2 ((live_drop hlt).2 hl)⟩
  | gsl o ver p e off len =>
    have hlt : o < objs.length := blt_lt hc
    exact ⟨h.1, known_drop hlt h.2.1, fun hl => h.2.2 ((live_drop hlt).2 hl)⟩
  | gptr o ver p e i j =>
    have hlt : o < objs.length := blt_lt hc
    exact ⟨h.1, known_drop hlt h.2.1, fun hl => h.2.2 ((live_drop hlt).2 hl)⟩
  | mp o ver =>
    have hlt : o < objs.length := blt_lt hc
    exact ⟨h.1, known_drop hlt h.2.1, fun hl => h.2.2 ((live_drop hlt).2 hl)⟩
  | fn f caps =>
    obtain ⟨vs, h1, h2, h3⟩ := h
    refine ⟨vs, h1, h2, fun i o ver off hi => ?_⟩
    obtain ⟨u, k1, k2⟩ := h3 i o ver off hi
    have := List.all_eq_true.1 hc _ (List.mem_of_getElem? hi)
    exact ⟨u, k1, ptrIs_drop (blt_lt this) k2⟩
  | _ => exact h

theorem relV1_drop {x : V1} {u : Value} (hc : clV1 objs.length x = true) (h : RelV1 c (objs ++ gs) w x u) : RelV1 c objs w x u := by
  cases x with
  | c x => exact relCV_drop hc h
  | agg xs =>
    obtain ⟨vs, h1, h2, h3⟩ := h
    refine ⟨vs, h1, h2, fun i x hi => ?_⟩
    obtain ⟨u, k1, k2⟩ := h3 i x hi
    exact ⟨u, k1, relCV_drop (List.all_eq_true.1 hc _ (List.mem_of_getElem? hi)) k2⟩

theorem relSV_drop {x : SV} {u : Value} (hc : clSV objs.length x = true) (h : RelSV c (objs ++ gs) w x u) : RelSV c objs w x u := by
  cases x with
  | un => trivial
  | one x => exact relV1_drop hc h
  | tup xs =>
    obtain ⟨vs, h1, h2, h3⟩ := h
    refine ⟨vs, h1, h2, fun i x hi => ?_⟩
    obtain ⟨u, k1, k2⟩ := h3 i x hi
    exact ⟨u, k1, relV1_drop (List.all_eq_true.1 hc _ (List.mem_of_getElem? hi)) k2⟩

theorem own_drop {b : Nat} (h : Own c objs b) : Own c (objs ++ gs) b := by
  obtain ⟨o, ver, bd, h1, h2, h3⟩ := h
  exact ⟨o, ver, bd, by rw [List.getElem?_append_left (List.getElem?_eq_some_iff.1 h1).1]; exact h1, h2, h3⟩

theorem relOB_drop {n : Nat} (hn : n = objs.length) {o : Nat} {bd : OB} (hc : clOB n bd = true) (h : RelOB c (objs ++ gs) w o bd) : RelOB c objs w o bd := by
  subst hn
  induction bd with
  | dead => trivial
  | arr e xs => exact h
  | grid e xs => exact h
  | map n es => exact h
  | fro r b ih => exact ⟨ih h.1 hc, h.2⟩
  | box xs =>
    obtain ⟨b, base, cs, T, h1, h2, h3, h4⟩ := h
    refine ⟨b, base, cs, T, h1, h2, h3, fun i x hi => ?_⟩
    obtain ⟨u, k1, k2⟩ := h4 i x hi
    exact ⟨u, k1, relCV_drop (List.all_eq_true.1 hc _ (List.mem_of_getElem? hi)) k2⟩

theorem relObjs_drop (hc : clObjs objs.length objs = true) (h : RelObjs c (objs ++ gs) w) : RelObjs c objs w := by
  have up : ∀ {o ver : Nat} {bd : OB}, objs[o]? = some (ver, bd) → (objs ++ gs)[o]? = some (ver, bd) := by
    intro o ver bd h1
    rw [List.getElem?_append_left (List.getElem?_eq_some_iff.1 h1).1]; exact h1
  exact ⟨fun o ver bd ho => relOB_drop rfl (List.all_eq_true.1 hc _ (List.mem_of_getElem? ho)) (h.ob o ver bd (up ho)), fun o o' ver ver' bd bd' b h1 h2 h3 h4 => h.inj o o' ver ver' bd bd' b (up h1) h2 (up h3) h4, h.rsize,
    fun o ver bd b h1 h2 h3 => h.lsize o ver bd b (up h1) h2 h3, fun b hb => h.oR b (own_drop hb)⟩
end

/-- At the head of a round: what matters of a state. -/
theorem weak_of {n0 n : Nat} {env env' : List (Nat × SV)} {objs objs' : Objs} (hobj : objs.take objs'.length = objs') (he : envOK env env') (hcl : (clEnv objs'.length env' && clObjs objs'.length objs') = true) (hn : n0 ≤ objs'.length) :
    Weak n0 ⟨env, objs, n⟩ ⟨env', objs', n⟩ := by
  intro c a w hr
  have hsplit : objs = objs' ++ objs.drop objs'.length := by
    have := List.take_append_drop objs'.length objs
    rw [hobj] at this; exact this.symm
  simp only [Bool.and_eq_true] at hcl
  obtain ⟨hc1, hc2⟩ := hcl
  rw [hsplit] at hr
  have hro : RelObjs c (objs' ++ objs.drop objs'.length) w := hr.objs
  refine ⟨c, ?_, ⟨relObjs_drop hc2 hro, fun t ht => ?_, hr.size, hr.defers⟩⟩
  · dsimp only
    rw [hsplit]
    refine ⟨Nat.le_refl _, rfl, rfl, rfl, fun _ _ _ => rfl, fun _ cs _ h => ⟨cs, h, rfl⟩, fun b hb => .inl (own_drop hb), fun _ h => h, fun _ h => .inl h, fun o cur bd ho h => ?_⟩
    rw [List.getElem?_append_left (by omega)] at h
    exact ⟨cur, bd, h, Nat.le_refl _, fun _ h => ⟨h, rfl, fun _ _ h => h⟩⟩
  · obtain ⟨u, k1, k2⟩ := hr.env t ht
    refine ⟨u, k1, ?_⟩
    rcases envOK_get he t with h1 | h1
    · show RelSV c objs' w (getE env' t) u
      rw [h1]; trivial
    · show RelSV c objs' w (getE env' t) u
      refine relSV_drop (gs := objs.drop objs'.length) (clEnv_get hc1 t) ?_
      rw [h1]; exact k2

def seenN (t : Nat) : List Nat → Bool
  | [] => false
  | k :: r => match Nat.beq t k with
    | true => true
    | false => seenN t r

/-- As envOK; what stands behind a later entry for the same place is not looked at. -/
def envOKs (env : List (Nat × SV)) : List Nat → List (Nat × SV) → Prop
  | _, [] => True
  | ks, (t, v) :: r => match seenN t ks with
    | true => envOKs env ks r
    | false => getE env t = v ∧ envOKs env (t :: ks) r

theorem seenN_iff {t : Nat} : ∀ {ks : List Nat}, seenN t ks = true ↔ t ∈ ks
  | [] => by simp [seenN]
  | k :: r => by
    unfold seenN
    split
    · rename_i h; simp [Nat.eq_of_beq_eq_true h]
    · rename_i h
      rw [seenN_iff (ks := r)]
      have hne : t ≠ k := fun e => by subst e; simp at h
      simp [hne]

theorem envOKs_get {env : List (Nat × SV)} : ∀ {ks : List Nat} {env' : List (Nat × SV)}, envOKs env ks env' → ∀ t, t ∉ ks → getE env' t = .un ∨ getE env' t = getE env t
  | _, [], _, _, _ => .inl rfl
  | ks, (k, v) :: r, h, t, ht => by
    unfold envOKs at h
    simp only [getE]
    split at h
    · rename_i hs
      have hk := seenN_iff.1 hs
      have hne : t ≠ k := fun e => ht (e ▸ hk)
      rw [if_neg hne]
      exact envOKs_get h t ht
    · by_cases e : t = k
      · subst e; rw [if_pos rfl]; exact .inr h.1.symm
      · rw [if_neg e]
        exact envOKs_get h.2 t (by simp [e, ht])

theorem weak_same {n0 n : Nat} {env env' : List (Nat × SV)} {objs objs' : Objs} (ho : objs = objs') (he : envOK env env') : Weak n0 ⟨env, objs, n⟩ ⟨env', objs', n⟩ := by
  subst ho
  intro c a w hr
  refine ⟨c, Ext.refl _ _ _ _, ⟨hr.objs, fun t ht => ?_, hr.size, hr.defers⟩⟩
  obtain ⟨u, k1, k2⟩ := hr.env t ht
  refine ⟨u, k1, ?_⟩
  rcases envOK_get he t with h1 | h1
  · show RelSV c objs w (getE env' t) u
    rw [h1]; trivial
  · show RelSV c objs w (getE env' t) u
    rw [h1]; exact k2

theorem objAt_lt {objs : Objs} {o ver : Nat} {b : OB} (h : objAt objs o ver = some b) : o < objs.length := by
  unfold objAt at h
  split at h
  · rename_i v b' he; exact (List.getElem?_eq_some_iff.1 he).1
  · cases h

theorem objAt_set {objs : Objs} {o ver : Nat} {b : OB} (h : o < objs.length) : objAt (objs.set o (ver, b)) o ver = some b := by
  unfold objAt
  rw [List.getElem?_set_self h]
  simp

theorem aliveB_arr {objs : Objs} {o ver e : Nat} {xs : List (List DC)} (h : objAt objs o ver = some (.arr e xs)) : aliveB objs o ver = true := by
  unfold aliveB; rw [h]

theorem set_self {objs : Objs} {o ver : Nat} {b : OB} (h : objAt objs o ver = some b) : objs.set o (ver, b) = objs := by
  unfold objAt at h
  split at h
  · rename_i v b' he
    split at h
    · rename_i hv
      cases h; subst hv
      apply List.ext_getElem?
      intro i
      by_cases e : o = i
      · subst e; rw [List.getElem?_set_self (List.getElem?_eq_some_iff.1 he).1, he]
      · rw [List.getElem?_set_ne e]
    · cases h
  · cases h

/-- Rows that a law has marked. -/
def mk3 (k : Int) (n : Nat) : List (Int × Int × Int) := (List.range n).map fun i : Nat => (k + 3 * (i : Int), k + 3 * (i : Int) + 1, k + 3 * (i : Int) + 2)

/-- Rows of three numbers. -/
def r3 (x : Int × Int × Int) : List DC := [dI x.1, dI x.2.1, dI x.2.2]

theorem r3_get {l : List (Int × Int × Int)} {i : Nat} {x : List DC} (h : (l.map r3)[i]? = some x) : ∃ k a b, l[i]? = some (k, a, b) ∧ x = [dI k, dI a, dI b] := by
  simp only [List.getElem?_map, Option.map_eq_some_iff] at h
  obtain ⟨⟨k, a, b⟩, h1, rfl⟩ := h
  exact ⟨k, a, b, h1, rfl⟩

theorem r3_flat {l : List (Int × Int × Int)} : ∀ y ∈ l.map r3, ∀ d ∈ y, flatDC d := by
  intro y hy d hd
  obtain ⟨x, _, rfl⟩ := List.mem_map.1 hy
  simp only [r3, List.mem_cons, List.not_mem_nil, or_false] at hd
  rcases hd with rfl | rfl | rfl <;> trivial

/-- A row that is being filled, one element farther. -/
theorem fill_set {α β : Type} {f : α → β} {l : List α} {z : β} {i : Nat} {y : α} (h : l[i]? = some y) :
    ((l.take i).map f ++ List.replicate (l.length - i) z).set i (f y) = (l.take (i + 1)).map f ++ List.replicate (l.length - (i + 1)) z := by
  obtain ⟨hi, h⟩ := List.getElem?_eq_some_iff.1 h
  have hl : ((l.take i).map f).length = i := by simp; omega
  rw [List.set_append_right _ _ (by omega), hl, Nat.sub_self, show l.length - i = (l.length - (i + 1)) + 1 by omega, List.replicate_succ, List.set_cons_zero, List.take_add_one, List.getElem?_eq_getElem hi, h]
  simp

theorem fill_all {α β : Type} {f : α → β} {l : List α} {z : β} {i : Nat} (h : l.length ≤ i) : (l.take i).map f ++ List.replicate (l.length - i) z = l.map f := by
  rw [List.take_of_length_le h, show l.length - i = 0 by omega]; simp

/-- What a filled row of its own hands back. -/
theorem res_row {ver e : Nat} {xs : List (List DC)} {cap : Option Nat} {objs : Objs} {o n : Nat} (ho : objs[o]? = some (ver, .arr e xs)) (hn : n = xs.length) (hf : ∀ y ∈ xs, ∀ d ∈ y, flatDC d) :
    ResOK objs [.c (.sl o ver e 0 n cap)] [.c (.list e xs)] := by
  subst hn
  refine ⟨⟨?_, trivial⟩, by simp [refVs, refCV]⟩
  simp only [resCell, objAt, ho, if_true]
  exact ⟨trivial, trivial, by omega, by simp, hf⟩

theorem res_cell {ver e : Nat} {xs : List (List DC)} {cap : Option Nat} {objs : Objs} {o n : Nat} (ho : objAt objs o ver = some (.arr e xs)) (hn : n = xs.length) (hf : ∀ y ∈ xs, ∀ d ∈ y, flatDC d) :
    resCell objs (.sl o ver e 0 n cap) (.list e xs) := by
  subst hn
  simp only [resCell, ho]
  exact ⟨trivial, trivial, by omega, by simp, hf⟩

theorem set_get {α : Type} {l : List α} {i : Nat} {x y : α} (h : (l.set i y)[i]? = some x) : x = y := by
  by_cases hi : i < l.length
  · rw [List.getElem?_set_self hi] at h; exact (Option.some.inj h).symm
  · rw [List.getElem?_eq_none (by simp; omega)] at h; cases h

theorem wrap_len {n : Nat} (h : n ≤ 2 ^ 60) : IntKind.i64.wrap (n : Int) = n := wrap_i64 _ (by omega) (by omega)

end Go.Proofs.Ytbmaofepmheeeaa

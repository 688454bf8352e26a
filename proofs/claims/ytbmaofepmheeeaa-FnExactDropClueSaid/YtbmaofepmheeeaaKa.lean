/- The abstract states of this session's calculus: values of single cells, objects that a call owns, what they stand for in the model's memory. -/
import Derived.Calls
import Derived.Below
import Derived.Laws.Sem
import Derived.Laws.Cells
import Derived.Laws.Entries
import Derived.Laws.CopyRow
import Derived.Attr
namespace Go.Proofs.Ytbmaofepmheeeaa
open Go Go.RowKit

/-- The datum of one cell that nobody writes: a plain value, or a list (a slice that is only read): e cells an element. -/
inductive DC where
  | v (x : Value)
  | list (e : Nat) (xs : List (List DC))
  deriving Inhabited

/-- What one cell or one temporary holds. -/
inductive CV where
  | d (x : DC)
  | nilsl
  | esl
  | ptr (o ver off : Nat)
  | eptr (o ver e i j : Nat)
  | ip (e : Nat) (xs : List (List DC)) (i j : Nat)
  | sl (o ver e off len : Nat) (cap : Option Nat)
  | gsl (o ver p e off len : Nat)
  | gptr (o ver p e i j : Nat)
  | mp (o ver : Nat)
  | fn (f : FuncId) (caps : List (Nat × Nat × Nat))
  deriving Inhabited

inductive V1 where
  | c (x : CV)
  | agg (xs : List CV)
  deriving Inhabited

inductive SV where
  | un
  | one (v : V1)
  | tup (vs : List V1)
  deriving Inhabited

/-- A plain datum of one cell or of some. -/
inductive DV where
  | c (x : DC)
  | agg (xs : List DC)
  deriving Inhabited

/-- A cell of a row whose cells may hold rows of their own. -/
inductive GC where
  | d (x : DC)
  | row (e : Nat) (ys : List (List DC))
  deriving Inhabited

/-- An object of the call's own: cells of a known number, a row of elements, a row of elements with rows of their own, a map; or one that nobody writes any more. -/
inductive OB where
  | dead
  | box (cs : List CV)
  | arr (e : Nat) (xs : List (List DC))
  | grid (e : Nat) (xs : List (List GC))
  | map (n : Nat) (es : List (List Int × DV))
  | fro (r : Bool) (b : OB)
  deriving Inhabited

/-- May be written. -/
@[simp] def OB.mine : OB → Bool
  | .dead => false
  | .fro _ _ => false
  | _ => true

theorem OB.mine_live {b : OB} (h : b.mine = true) : b ≠ .dead := by rintro rfl; cases h

abbrev Objs := List (Nat × OB)

structure Ctx where
  φ : Nat → Option (Nat × Nat)
  R : Nat → Prop
  ψ : Nat → Nat → Option (Nat × Nat)

/-- Block b is one of object o's. -/
def Ctx.has (c : Ctx) (o b : Nat) : Prop := (∃ base, c.φ o = some (b, base)) ∨ ∃ p base, c.ψ o p = some (b, base)

theorem Ctx.has_of {c : Ctx} {o b base : Nat} (h : c.φ o = some (b, base)) : c.has o b := .inl ⟨base, h⟩

/-- A datum as the value of a cell: what it leads to lies in blocks of which R holds. -/
inductive Rep (w : World) (R : Nat → Prop) : DC → Value → Prop
  | v (x : Value) (h1 : x.oneCell' = true) : Rep w R (.v x) x
  | list (e : Nat) (xs : List (List DC)) (a : Option Addr) (cap : Nat) (val : Nat → Nat → Value)
      (hc : xs.length ≤ cap) (hl : ∀ x ∈ xs, x.length = e)
      (hcell : ∀ i j, i < xs.length → j < e → ∃ b off, a = some ⟨b, off, none⟩ ∧ R b ∧ w.cell? ⟨b, off + (i * e + j), none⟩ = some (val i j))
      (hrep : ∀ (i j : Nat) x, (xs[i]?.bind (·[j]?)) = some x → Rep w R x (val i j)) :
      Rep w R (.list e xs) (.slice a xs.length cap)

theorem Rep.mono {w w' : World} {R R' : Nat → Prop} (hR : ∀ b, R b → R' b) (hw : ∀ b, R b → w'.heap[b]? = w.heap[b]?) {d : DC} {v : Value} (h : Rep w R d v) : Rep w' R' d v := by
  induction h with
  | v x h1 => exact .v x h1
  | list e xs a cap val hc hl hcell hrep ih =>
    refine .list e xs a cap val hc hl ?_ ih
    intro i j hi hj
    obtain ⟨b, off, ha, hb, hcl⟩ := hcell i j hi hj
    refine ⟨b, off, ha, hR b hb, ?_⟩
    rw [← hcl]
    unfold World.cell?
    dsimp only
    rw [hw b hb]

/-- Object o is there, at version ver. -/
def Live (objs : Objs) (o ver : Nat) : Prop := ∃ b, objs[o]? = some (ver, b) ∧ b ≠ .dead

/-- The reference (o, ver) leads to an object that was laid, at no later version than it has. -/
def Known (objs : Objs) (o ver : Nat) : Prop := ∃ cur b, objs[o]? = some (cur, b) ∧ ver ≤ cur

def capOk (cap : Option Nat) (cp : Nat) : Prop := ∀ c, cap = some c → cp = c

def PtrIs (c : Ctx) (objs : Objs) (o ver off : Nat) (v : Value) : Prop :=
  v.oneCell' = true ∧ Known objs o ver ∧ (Live objs o ver → ∃ b base, c.φ o = some (b, base) ∧ v = .pointer (some ⟨b, base + off, none⟩))

def RelCV (c : Ctx) (objs : Objs) (w : World) : CV → Value → Prop
  | .d x, v => Rep w c.R x v
  | .nilsl, v => v = .slice none 0 0
  | .esl, v => ∃ a, v = .slice a 0 0
  | .ptr o ver off, v => PtrIs c objs o ver off v
  | .eptr o ver e i j, v => PtrIs c objs o ver (i * e + j) v
  | .ip e xs i j, v => ∃ b off u, Rep w c.R (.list e xs) u ∧ u = .slice (some ⟨b, off, none⟩) xs.length xs.length ∧ i < xs.length ∧ v = .pointer (some ⟨b, off + (i * e + j), none⟩)
  | .sl o ver e off len cap, v => v.oneCell' = true ∧ Known objs o ver ∧ (Live objs o ver → ∃ a cp, v = .slice a len cp ∧ len ≤ cp ∧ capOk cap cp ∧
      (0 < cp → ∃ b base cs T, c.φ o = some (b, base) ∧ a = some ⟨b, base + off * e, none⟩ ∧ w.heap[b]? = some (.cells cs T (0, 0)) ∧ base + (off + cp) * e ≤ cs.size))
  | .gsl o ver p e off len, v => v.oneCell' = true ∧ Known objs o ver ∧ (Live objs o ver → ∃ a cp, v = .slice a len cp ∧ len ≤ cp ∧ (0 < cp → ∃ b base, c.ψ o p = some (b, base) ∧ a = some ⟨b, base + off * e, none⟩))
  | .gptr o ver p e i j, v => v.oneCell' = true ∧ Known objs o ver ∧ (Live objs o ver → ∃ b base, c.ψ o p = some (b, base) ∧ v = .pointer (some ⟨b, base + (i * e + j), none⟩))
  | .mp o ver, v => v.oneCell' = true ∧ Known objs o ver ∧ (Live objs o ver → ∃ b base, c.φ o = some (b, base) ∧ v = .map (some b))
  | .fn f caps, v => ∃ vs, v = .func (.func f) #[] vs ∧ vs.size = caps.length ∧ ∀ (i o ver off : Nat), caps[i]? = some (o, ver, off) → ∃ u, vs[i]? = some u ∧ PtrIs c objs o ver off u

/-- Block b is one of the objects'. -/
def Own (c : Ctx) (objs : Objs) (b : Nat) : Prop := ∃ o ver bd, objs[o]? = some (ver, bd) ∧ bd.mine = true ∧ c.has o b

/-- A cell of a row whose cells may hold rows of their own: those lie where ψ says. -/
def RelGC (c : Ctx) (w : World) (o p : Nat) : GC → Value → Prop
  | .d x, v => Rep w c.R x v
  | .row e ys, v => ∃ a cp, v = .slice a ys.length cp ∧ ys.length ≤ cp ∧ (∀ y ∈ ys, y.length = e) ∧ (0 < cp → ∃ b base cs T, c.ψ o p = some (b, base) ∧ a = some ⟨b, base, none⟩ ∧ w.heap[b]? = some (.cells cs T (0, 0)) ∧ base + cp * e ≤ cs.size ∧
      ∀ (i j : Nat) d, (ys[i]?.bind (·[j]?)) = some d → ∃ u, cs[base + (i * e + j)]? = some u ∧ Rep w c.R d u)

def RepDV (w : World) (R : Nat → Prop) : DV → Value → Prop
  | .c x, v => Rep w R x v
  | .agg xs, v => ∃ vs, v = .agg vs ∧ vs.size = xs.length ∧ ∀ (i : Nat) x, xs[i]? = some x → ∃ u, vs[i]? = some u ∧ Rep w R x u

/-- A key of a map: a row of numbers. -/
def keyVal (k : List Int) : Value := .agg (k.map (Value.int .i64)).toArray

def keyOK (n : Nat) (k : List Int) : Prop := k.length = n ∧ ∀ x ∈ k, -9223372036854775808 ≤ x ∧ x ≤ 9223372036854775807

def RelOB (c : Ctx) (objs : Objs) (w : World) (o : Nat) : OB → Prop
  | .dead => True
  | .box xs => ∃ b base cs T, c.φ o = some (b, base) ∧ w.heap[b]? = some (.cells cs T (0, 0)) ∧ base + xs.length ≤ cs.size ∧ ∀ (i : Nat) x, xs[i]? = some x → ∃ u, cs[base + i]? = some u ∧ RelCV c objs w x u
  | .arr e xs => (c.φ o = none ∧ xs = []) ∨ ∃ b base cs T, c.φ o = some (b, base) ∧ w.heap[b]? = some (.cells cs T (0, 0)) ∧ base + xs.length * e ≤ cs.size ∧
      (∀ x ∈ xs, x.length = e) ∧ ∀ (i j : Nat) d, (xs[i]?.bind (·[j]?)) = some d → ∃ u, cs[base + (i * e + j)]? = some u ∧ Rep w c.R d u
  | .grid e xs => ∃ b base cs T, c.φ o = some (b, base) ∧ w.heap[b]? = some (.cells cs T (0, 0)) ∧ base + xs.length * e ≤ cs.size ∧ (∀ x ∈ xs, x.length = e) ∧
      (∀ (i j : Nat) g, (xs[i]?.bind (·[j]?)) = some g → ∃ u, cs[base + (i * e + j)]? = some u ∧ RelGC c w o (i * e + j) g u) ∧
      (∀ p b' base', c.ψ o p = some (b', base') → b' ≠ b) ∧ (∀ p p' b' base' base'', c.ψ o p = some (b', base') → c.ψ o p' = some (b', base'') → p = p') ∧
      (∀ p x, c.ψ o p = some x → ∃ y e' ys, xs[p / e]? = some y ∧ y[p % e]? = some (.row e' ys))
  | .map n es => ∃ b base ents clock, c.φ o = some (b, base) ∧ w.heap[b]? = some (.map ents clock) ∧ ents.size = es.length ∧ (es.map (·.1)).Nodup ∧ (∀ x ∈ es, keyOK n x.1) ∧ ∀ (i : Nat) k v, es[i]? = some (k, v) → ∃ en, ents[i]? = some en ∧ en.key = keyVal k ∧ RepDV w c.R v en.val
  | .fro r b => RelOB c objs w o b ∧ (r = true → ∀ k, c.has o k → c.R k)

structure RelObjs (c : Ctx) (objs : Objs) (w : World) : Prop where
  ob : ∀ o ver b, objs[o]? = some (ver, b) → RelOB c objs w o b
  inj : ∀ o o' ver ver' bd bd' b, objs[o]? = some (ver, bd) → bd.mine = true → objs[o']? = some (ver', bd') → bd' ≠ .dead → c.has o b → c.has o' b → o = o'
  rsize : ∀ b, c.R b → b < w.heap.size
  lsize : ∀ o ver bd b, objs[o]? = some (ver, bd) → bd ≠ .dead → c.has o b → b < w.heap.size
  oR : ∀ b, Own c objs b → ¬ c.R b

theorem RelObjs.osize {c : Ctx} {objs : Objs} {w : World} (h : RelObjs c objs w) : ∀ b, Own c objs b → b < w.heap.size ∧ ¬ c.R b :=
  fun b hb => ⟨by obtain ⟨o, ver, bd, h1, h2, h3⟩ := hb; exact h.lsize o ver bd b h1 (OB.mine_live h2) h3, h.oR b hb⟩

def RelV1 (c : Ctx) (objs : Objs) (w : World) : V1 → Value → Prop
  | .c x, v => RelCV c objs w x v
  | .agg xs, v => ∃ vs, v = .agg vs ∧ vs.size = xs.length ∧ ∀ (i : Nat) x, xs[i]? = some x → ∃ u, vs[i]? = some u ∧ RelCV c objs w x u

def RelSV (c : Ctx) (objs : Objs) (w : World) : SV → Value → Prop
  | .un, _ => True
  | .one x, v => RelV1 c objs w x v
  | .tup xs, v => ∃ vs, v = .tuple vs ∧ vs.size = xs.length ∧ ∀ (i : Nat) x, xs[i]? = some x → ∃ u, vs[i]? = some u ∧ RelV1 c objs w x u

/-- What a piece of code does to memory: what is not its own stays as it is. The references to the first n objects stay right. -/
structure Ext (n : Nat) (c : Ctx) (objs : Objs) (w : World) (c' : Ctx) (objs' : Objs) (w' : World) : Prop where
  size : w.heap.size ≤ w'.heap.size
  tape : w'.tape = w.tape
  os : w'.os = w.os
  output : w'.output = w.output
  keep : ∀ (b : Nat), b < w.heap.size → ¬ Own c objs b → w'.heap[b]? = w.heap[b]?
  shape : ∀ (b : Nat) cs T, w.heap[b]? = some (Obj.cells cs T (0, 0)) → ∃ cs', w'.heap[b]? = some (Obj.cells cs' T (0, 0)) ∧ cs'.size = cs.size
  own : ∀ (b : Nat), Own c' objs' b → Own c objs b ∨ w.heap.size ≤ b
  rup : ∀ b, c.R b → c'.R b
  rdown : ∀ b, c'.R b → c.R b ∨ Own c objs b ∨ w.heap.size ≤ b
  refs : ∀ o cur bd, o < n → objs[o]? = some (cur, bd) → ∃ cur' bd', objs'[o]? = some (cur', bd') ∧ cur ≤ cur' ∧ (cur' = cur → bd' ≠ .dead → bd ≠ .dead ∧ c'.φ o = c.φ o ∧ ∀ p x, c.ψ o p = some x → c'.ψ o p = some x)

theorem Ext.refl (n : Nat) (c : Ctx) (objs : Objs) (w : World) : Ext n c objs w c objs w :=
  ⟨Nat.le_refl _, rfl, rfl, rfl, fun _ _ _ => rfl, fun _ cs _ h => ⟨cs, h, rfl⟩, fun _ h => .inl h, fun _ h => h, fun _ h => .inl h, fun _ cur bd _ h => ⟨cur, bd, h, Nat.le_refl _, fun _ h => ⟨h, rfl, fun _ _ h => h⟩⟩⟩

theorem Ext.trans {n n' : Nat} {c c' c'' : Ctx} {objs objs' objs'' : Objs} {w w' w'' : World} (h : Ext n c objs w c' objs' w') (g : Ext n' c' objs' w' c'' objs'' w'') (hn : n ≤ n') : Ext n c objs w c'' objs'' w'' := by
  refine ⟨Nat.le_trans h.size g.size, g.tape.trans h.tape, g.os.trans h.os, g.output.trans h.output, ?_, ?_, ?_, fun b hb => g.rup b (h.rup b hb), ?_, ?_⟩
  · intro b hb ho
    rw [g.keep b (Nat.lt_of_lt_of_le hb h.size) (fun hc => (h.own b hc).elim ho (fun h2 => by omega)), h.keep b hb ho]
  · intro b cs T hb
    obtain ⟨cs', h1, h2⟩ := h.shape b cs T hb
    obtain ⟨cs'', h3, h4⟩ := g.shape b cs' T h1
    exact ⟨cs'', h3, h4.trans h2⟩
  · intro b hb
    rcases g.own b hb with h1 | h1
    · exact h.own b h1
    · exact .inr (Nat.le_trans h.size h1)
  · intro b hb
    rcases g.rdown b hb with h1 | h1 | h1
    · exact h.rdown b h1
    · rcases h.own b h1 with h2 | h2
      · exact .inr (.inl h2)
      · exact .inr (.inr h2)
    · exact .inr (.inr (Nat.le_trans h.size h1))
  · intro o cur bd ho hob
    obtain ⟨cur', bd', h1, h2, h3⟩ := h.refs o cur bd ho hob
    obtain ⟨cur'', bd'', g1, g2, g3⟩ := g.refs o cur' bd' (by omega) h1
    refine ⟨cur'', bd'', g1, Nat.le_trans h2 g2, fun e hd => ?_⟩
    have e1 : cur'' = cur' := by omega
    have e2 : cur' = cur := by omega
    obtain ⟨k1, k2, k5⟩ := g3 e1 hd
    obtain ⟨k3, k4, k6⟩ := h3 e2 k1
    exact ⟨k3, k2.trans k4, fun p x hp => k5 p x (k6 p x hp)⟩

theorem Ext.lower {n m : Nat} {c c' : Ctx} {objs objs' : Objs} {w w' : World} (h : Ext n c objs w c' objs' w') (hm : m ≤ n) : Ext m c objs w c' objs' w' :=
  ⟨h.size, h.tape, h.os, h.output, h.keep, h.shape, h.own, h.rup, h.rdown, fun o cur bd ho => h.refs o cur bd (by omega)⟩

section mono
variable {n : Nat} {c c' : Ctx} {objs objs' : Objs} {w w' : World}

theorem Ext.rep (h : Ext n c objs w c' objs' w') (hr : RelObjs c objs w) {d : DC} {v : Value} (hv : Rep w c.R d v) : Rep w' c'.R d v :=
  hv.mono h.rup fun b hb => h.keep b (hr.rsize b hb) (fun ho => (hr.osize b ho).2 hb)

theorem Known.of_live {o ver : Nat} (h : Live objs o ver) : Known objs o ver := by
  obtain ⟨b, h1, _⟩ := h
  exact ⟨ver, b, h1, Nat.le_refl _⟩

theorem Known.lt {o ver : Nat} (h : Known objs o ver) : o < objs.length := by
  obtain ⟨cur, b, h1, _⟩ := h
  rcases Nat.lt_or_ge o objs.length with h2 | h2
  · exact h2
  · rw [List.getElem?_eq_none h2] at h1; cases h1

theorem Ext.known (h : Ext n c objs w c' objs' w') (hn : objs.length ≤ n) {o ver : Nat} (hk : Known objs o ver) :
    Known objs' o ver ∧ (Live objs' o ver → Live objs o ver ∧ c'.φ o = c.φ o ∧ ∀ p x, c.ψ o p = some x → c'.ψ o p = some x) := by
  have hlt := hk.lt
  obtain ⟨cur, b, h1, h2⟩ := hk
  obtain ⟨cur', bd', g1, g2, g3⟩ := h.refs o cur b (by omega) h1
  refine ⟨⟨cur', bd', g1, Nat.le_trans h2 g2⟩, ?_⟩
  rintro ⟨b2, k1, k2⟩
  rw [g1] at k1
  obtain ⟨rfl, rfl⟩ : cur' = ver ∧ bd' = b2 := by simpa using k1
  have e : cur' = cur := by omega
  obtain ⟨m1, m2, m3⟩ := g3 e k2
  exact ⟨⟨b, e ▸ h1, m1⟩, m2, m3⟩

theorem Ext.ptrIs (h : Ext n c objs w c' objs' w') (hn : objs.length ≤ n) {o ver off : Nat} {v : Value} (hv : PtrIs c objs o ver off v) : PtrIs c' objs' o ver off v := by
  obtain ⟨h1, hk, hl⟩ := hv
  obtain ⟨k1, k2⟩ := h.known hn hk
  refine ⟨h1, k1, fun hlive => ?_⟩
  obtain ⟨m1, m2, _⟩ := k2 hlive
  obtain ⟨b, base, p1, p2⟩ := hl m1
  exact ⟨b, base, m2.trans p1, p2⟩

theorem Ext.relCV (h : Ext n c objs w c' objs' w') (hn : objs.length ≤ n) (hr : RelObjs c objs w) {x : CV} {v : Value} (hv : RelCV c objs w x v) : RelCV c' objs' w' x v := by
  cases x with
  | d x => exact h.rep hr hv
  | nilsl => exact hv
  | esl => exact hv
  | ptr o ver off => exact h.ptrIs hn hv
  | eptr o ver e i j => exact h.ptrIs hn hv
  | ip e xs i j =>
    obtain ⟨b, off, u, h1, h2⟩ := hv
    exact ⟨b, off, u, h.rep hr h1, h2⟩
  | sl o ver e off len cap =>
    obtain ⟨h1, hk, hl⟩ := hv
    obtain ⟨k1, k2⟩ := h.known hn hk
    refine ⟨h1, k1, fun hlive => ?_⟩
    obtain ⟨m1, m2, _⟩ := k2 hlive
    obtain ⟨a, cp, p1, p2, p3, p4⟩ := hl m1
    refine ⟨a, cp, p1, p2, p3, fun h0 => ?_⟩
    obtain ⟨b, base, cs, T, q1, q2, q3, q4⟩ := p4 h0
    obtain ⟨cs', s1, s2⟩ := h.shape b cs T q3
    exact ⟨b, base, cs', T, m2.trans q1, q2, s1, by omega⟩
  | gsl o ver p e off len =>
    obtain ⟨h1, hk, hl⟩ := hv
    obtain ⟨k1, k2⟩ := h.known hn hk
    refine ⟨h1, k1, fun hlive => ?_⟩
    obtain ⟨m1, _, m2⟩ := k2 hlive
    obtain ⟨a, cp, p1, p2, p4⟩ := hl m1
    refine ⟨a, cp, p1, p2, fun h0 => ?_⟩
    obtain ⟨b, base, q1, q2⟩ := p4 h0
    exact ⟨b, base, m2 _ _ q1, q2⟩
  | gptr o ver p e i j =>
    obtain ⟨h1, hk, hl⟩ := hv
    obtain ⟨k1, k2⟩ := h.known hn hk
    refine ⟨h1, k1, fun hlive => ?_⟩
    obtain ⟨m1, _, m2⟩ := k2 hlive
    obtain ⟨b, base, q1, q2⟩ := hl m1
    exact ⟨b, base, m2 _ _ q1, q2⟩
  | mp o ver =>
    obtain ⟨h1, hk, hl⟩ := hv
    obtain ⟨k1, k2⟩ := h.known hn hk
    refine ⟨h1, k1, fun hlive => ?_⟩
    obtain ⟨m1, m2, _⟩ := k2 hlive
    obtain ⟨b, base, q1, q2⟩ := hl m1
    exact ⟨b, base, m2.trans q1, q2⟩
  | fn f caps =>
    obtain ⟨vs, h1, h2, h3⟩ := hv
    refine ⟨vs, h1, h2, fun i o ver off hi => ?_⟩
    obtain ⟨u, k1, k2⟩ := h3 i o ver off hi
    exact ⟨u, k1, h.ptrIs hn k2⟩

theorem Ext.relV1 (h : Ext n c objs w c' objs' w') (hn : objs.length ≤ n) (hr : RelObjs c objs w) {x : V1} {v : Value} (hv : RelV1 c objs w x v) : RelV1 c' objs' w' x v := by
  cases x with
  | c x => exact h.relCV hn hr hv
  | agg xs =>
    obtain ⟨vs, h1, h2, h3⟩ := hv
    refine ⟨vs, h1, h2, fun i x hi => ?_⟩
    obtain ⟨u, k1, k2⟩ := h3 i x hi
    exact ⟨u, k1, h.relCV hn hr k2⟩

theorem Ext.relSV (h : Ext n c objs w c' objs' w') (hn : objs.length ≤ n) (hr : RelObjs c objs w) {x : SV} {v : Value} (hv : RelSV c objs w x v) : RelSV c' objs' w' x v := by
  cases x with
  | un => exact trivial
  | one x => exact h.relV1 hn hr hv
  | tup xs =>
    obtain ⟨vs, h1, h2, h3⟩ := hv
    refine ⟨vs, h1, h2, fun i x hi => ?_⟩
    obtain ⟨u, k1, k2⟩ := h3 i x hi
    exact ⟨u, k1, h.relV1 hn hr k2⟩
end mono

theorem Rep.one {w : World} {R : Nat → Prop} {d : DC} {v : Value} (h : Rep w R d v) : v.oneCell' = true := by
  cases h with
  | v _ h1 => exact h1
  | list => rfl

theorem RelCV.one {c : Ctx} {objs : Objs} {w : World} {x : CV} {v : Value} (h : RelCV c objs w x v) : v.oneCell' = true := by
  cases x with
  | d x => exact Rep.one h
  | nilsl => obtain rfl := h; rfl
  | esl => obtain ⟨a, rfl⟩ := h; rfl
  | ptr o ver off => exact h.1
  | eptr o ver e i j => exact h.1
  | ip e xs i j => obtain ⟨b, off, u, _, _, _, rfl⟩ := h; rfl
  | sl o ver e off len cap => exact h.1
  | gsl o ver p e off len => exact h.1
  | gptr o ver p e i j => exact h.1
  | mp o ver => exact h.1
  | fn f caps => obtain ⟨vs, rfl, _⟩ := h; rfl

end Go.Proofs.Ytbmaofepmheeeaa

/- The abstract states of this session's calculus: values of single cells, objects that a call owns, what they stand for in the model's memory. -/
import Derived.Calls
import Derived.Below
import Derived.Laws.Sem
import Derived.Laws.Cells
import Derived.Laws.Entries
import Derived.Laws.CopyRow
import Derived.Attr
import Derived.OrdersHeld
import Derived.Laws.NewBlocks
import Derived.Laws.StructEq
import Derived.Laws.Rows
namespace Go.Proofs.Ytmfdkjjhdjkgpaa
open Go Go.RowKit

/-- The datum of one cell that nobody writes: a plain value, or a list (a slice that is only read): e cells an element. -/
inductive DC where
  | v (x : Value)
  | list (e : Nat) (xs : List (List DC))
  deriving Inhabited

/-- What one cell or one temporary holds. -/
inductive CV where
  | d (x : DC)
  | nilsl
  | esl
  | ptr (o ver off : Nat)
  | eptr (o ver e i j : Nat)
  | ip (e : Nat) (xs : List (List DC)) (i j : Nat)
  | sl (o ver e off len : Nat) (cap : Option Nat)
  | gsl (o ver p e off len : Nat)
  | gptr (o ver p e i j : Nat)
  | mp (o ver : Nat)
  | fn (f : FuncId) (caps : List (Nat × Nat × Nat))
  deriving Inhabited

inductive V1 where
  | c (x : CV)
  | agg (xs : List CV)
  deriving Inhabited

inductive SV where
  | un
  | one (v : V1)
  | tup (vs : List V1)
  deriving Inhabited

/-- A plain datum of one cell or of some. -/
inductive DV where
  | c (x : DC)
  | agg (xs : List DC)
  deriving Inhabited

/-- A cell of a row whose cells may hold rows of their own. -/
inductive GC where
  | d (x : DC)
  | row (e : Nat) (ys : List (List DC))
  deriving Inhabited

/-- An object of the call's own: cells of a known number, a row of elements, a row of elements with rows of their own, a map; or one that nobody writes any more. -/
inductive OB where
  | dead
  | box (cs : List CV)
  | arr (e : Nat) (xs : List (List DC))
  | grid (e : Nat) (xs : List (List GC))
  | map (n : Nat) (es : List (List Int × DV))
  | fro (r : Bool) (b : OB)
  deriving Inhabited

/-- May be written. -/
@[simp] def OB.mine : OB → Bool
  | .dead => false
  | .fro _ _ => false
  | _ => true

theorem OB.mine_live {b : OB} (h : b.mine = true) : b ≠ .dead := by rintro rfl; cases h

abbrev Objs := List (Nat × OB)

structure Ctx where
  φ : Nat → Option (Nat × Nat)
  R : Nat → Prop
  ψ : Nat → Nat → Option (Nat × Nat)

/-- Block b is one of object o's. -/
def Ctx.has (c : Ctx) (o b : Nat) : Prop := (∃ base, c.φ o = some (b, base)) ∨ ∃ p base, c.ψ o p = some (b, base)

theorem Ctx.has_of {c : Ctx} {o b base : Nat} (h : c.φ o = some (b, base)) : c.has o b := .inl ⟨base, h⟩

/-- A datum as the value of a cell: what it leads to lies in blocks of which R holds. -/
inductive Rep (w : World) (R : Nat → Prop) : DC → Value → Prop
  | v (x : Value) (h1 : x.oneCell' = true) : Rep w R (.v x) x
  | list (e : Nat) (xs : List (List DC)) (a : Option Addr) (cap : Nat) (val : Nat → Nat → Value)
      (hc : xs.length ≤ cap) (hl : ∀ x ∈ xs, x.length = e)
      (hcell : ∀ i j, i < xs.length → j < e → ∃ b off, a = some ⟨b, off, none⟩ ∧ R b ∧ w.cell? ⟨b, off + (i * e + j), none⟩ = some (val i j))
      (hrep : ∀ (i j : Nat) x, (xs[i]?.bind (·[j]?)) = some x → Rep w R x (val i j)) :
      Rep w R (.list e xs) (.slice a xs.length cap)

theorem Rep.mono {w w' : World} {R R' : Nat → Prop} (hR : ∀ b, R b → R' b) (hw : ∀ b, R b → w'.heap[b]? = w.heap[b]?) {d : DC} {v : Value} (h : Rep w R d v) : Rep w' R' d v := by
  induction h with
  | v x h1 => exact .v x h1
  | list e xs a cap val hc hl hcell hrep ih =>
    refine .list e xs a cap val hc hl ?_ ih
    intro i j hi hj
    obtain ⟨b, off, ha, hb, hcl⟩ := hcell i j hi hj
    refine ⟨b, off, ha, hR b hb, ?_⟩
    rw [← hcl]
    unfold World.cell?
    dsimp only
    rw [hw b hb]

/-- Object o is there, at version ver. -/
def Live (objs : Objs) (o ver : Nat) : Prop := ∃ b, objs[o]? = some (ver, b) ∧ b ≠ .dead

/-- The reference (o, ver) leads to an object that was laid, at no later version than it has. -/
def Known (objs : Objs) (o ver : Nat) : Prop := ∃ cur b, objs[o]? = some (cur, b) ∧ ver ≤ cur

def capOk (cap : Option Nat) (cp : Nat) : Prop := ∀ c, cap = some c → cp = c

def PtrIs (c : Ctx) (objs : Objs) (o ver off : Nat) (v : Value) : Prop :=
  v.oneCell' = true ∧ Known objs o ver ∧ (Live objs o ver → ∃ b base, c.φ o = some (b, base) ∧ v = .pointer (some ⟨b, base + off, none⟩))

def RelCV (c : Ctx) (objs : Objs) (w : World) : CV → Value → Prop
  | .d x, v => Rep w c.R x v
  | .nilsl, v => v = .slice none 0 0
  | .esl, v => ∃ a, v = .slice a 0 0
  | .ptr o ver off, v => PtrIs c objs o ver off v
  | .eptr o ver e i j, v => PtrIs c objs o ver (i * e + j) v
  | .ip e xs i j, v => ∃ b off u, Rep w c.R (.list e xs) u ∧ u = .slice (some ⟨b, off, none⟩) xs.length xs.length ∧ i < xs.length ∧ v = .pointer (some ⟨b, off + (i * e + j), none⟩)
  | .sl o ver e off len cap, v => v.oneCell' = true ∧ Known objs o ver ∧ (Live objs o ver → ∃ a cp, v = .slice a len cp ∧ len ≤ cp ∧ capOk cap cp ∧
      (0 < cp → ∃ b base cs T, c.φ o = some (b, base) ∧ a = some ⟨b, base + off * e, none⟩ ∧ w.heap[b]? = some (.cells cs T (0, 0)) ∧ base + (off + cp) * e ≤ cs.size))
  | .gsl o ver p e off len, v => v.oneCell' = true ∧ Known objs o ver ∧ (Live objs o ver → ∃ a cp, v = .slice a len cp ∧ len ≤ cp ∧ (0 < cp → ∃ b base, c.ψ o p = some (b, base) ∧ a = some ⟨b, base + off * e, none⟩))
  | .gptr o ver p e i j, v => v.oneCell' = true ∧ Known objs o ver ∧ (Live objs o ver → ∃ b base, c.ψ o p = some (b, base) ∧ v = .pointer (some ⟨b, base + (i * e + j), none⟩))
  | .mp o ver, v => v.oneCell' = true ∧ Known objs o ver ∧ (Live objs o ver → ∃ b base, c.φ o = some (b, base) ∧ v = .map (some b))
  | .fn f caps, v => ∃ vs, v = .func (.func f) #[] vs ∧ vs.size = caps.length ∧ ∀ (i o ver off : Nat), caps[i]? = some (o, ver, off) → ∃ u, vs[i]? = some u ∧ PtrIs c objs o ver off u

/-- Block b is one of the objects'. -/
def Own (c : Ctx) (objs : Objs) (b : Nat) : Prop := ∃ o ver bd, objs[o]? = some (ver, bd) ∧ bd.mine = true ∧ c.has o b

/-- A cell of a row whose cells may hold rows of their own: those lie where ψ says. -/
def RelGC (c : Ctx) (w : World) (o p : Nat) : GC → Value → Prop
  | .d x, v => Rep w c.R x v
  | .row e ys, v => ∃ a cp, v = .slice a ys.length cp ∧ ys.length ≤ cp ∧ (∀ y ∈ ys, y.length = e) ∧ (0 < cp → ∃ b base cs T, c.ψ o p = some (b, base) ∧ a = some ⟨b, base, none⟩ ∧ w.heap[b]? = some (.cells cs T (0, 0)) ∧ base + cp * e ≤ cs.size ∧
      ∀ (i j : Nat) d, (ys[i]?.bind (·[j]?)) = some d → ∃ u, cs[base + (i * e + j)]? = some u ∧ Rep w c.R d u)

def RepDV (w : World) (R : Nat → Prop) : DV → Value → Prop
  | .c x, v => Rep w R x v
  | .agg xs, v => ∃ vs, v = .agg vs ∧ vs.size = xs.length ∧ ∀ (i : Nat) x, xs[i]? = some x → ∃ u, vs[i]? = some u ∧ Rep w R x u

/-- A key of a map: a row of numbers. -/
def keyVal (k : List Int) : Value := .agg (k.map (Value.int .i64)).toArray

def keyOK (n : Nat) (k : List Int) : Prop := k.length = n ∧ ∀ x ∈ k, -9223372036854775808 ≤ x ∧ x ≤ 9223372036854775807

def RelOB (c : Ctx) (objs : Objs) (w : World) (o : Nat) : OB → Prop
  | .dead => True
  | .box xs => ∃ b base cs T, c.φ o = some (b, base) ∧ w.heap[b]? = some (.cells cs T (0, 0)) ∧ base + xs.length ≤ cs.size ∧ ∀ (i : Nat) x, xs[i]? = some x → ∃ u, cs[base + i]? = some u ∧ RelCV c objs w x u
  | .arr e xs => (c.φ o = none ∧ xs = []) ∨ ∃ b base cs T, c.φ o = some (b, base) ∧ w.heap[b]? = some (.cells cs T (0, 0)) ∧ base + xs.length * e ≤ cs.size ∧
      (∀ x ∈ xs, x.length = e) ∧ ∀ (i j : Nat) d, (xs[i]?.bind (·[j]?)) = some d → ∃ u, cs[base + (i * e + j)]? = some u ∧ Rep w c.R d u
  | .grid e xs => ∃ b base cs T, c.φ o = some (b, base) ∧ w.heap[b]? = some (.cells cs T (0, 0)) ∧ base + xs.length * e ≤ cs.size ∧ (∀ x ∈ xs, x.length = e) ∧
      (∀ (i j : Nat) g, (xs[i]?.bind (·[j]?)) = some g → ∃ u, cs[base + (i * e + j)]? = some u ∧ RelGC c w o (i * e + j) g u) ∧
      (∀ p b' base', c.ψ o p = some (b', base') → b' ≠ b) ∧ (∀ p p' b' base' base'', c.ψ o p = some (b', base') → c.ψ o p' = some (b', base'') → p = p') ∧
      (∀ p x, c.ψ o p = some x → ∃ y e' ys, xs[p / e]? = some y ∧ y[p % e]? = some (.row e' ys))
  | .map n es => ∃ b base ents clock, c.φ o = some (b, base) ∧ w.heap[b]? = some (.map ents clock) ∧ ents.size = es.length ∧ (es.map (·.1)).Nodup ∧ (∀ x ∈ es, keyOK n x.1) ∧ ∀ (i : Nat) k v, es[i]? = some (k, v) → ∃ en, ents[i]? = some en ∧ en.key = keyVal k ∧ RepDV w c.R v en.val
  | .fro r b => RelOB c objs w o b ∧ (r = true → ∀ k, c.has o k → c.R k)

structure RelObjs (c : Ctx) (objs : Objs) (w : World) : Prop where
  ob : ∀ o ver b, objs[o]? = some (ver, b) → RelOB c objs w o b
  inj : ∀ o o' ver ver' bd bd' b, objs[o]? = some (ver, bd) → bd.mine = true → objs[o']? = some (ver', bd') → bd' ≠ .dead → c.has o b → c.has o' b → o = o'
  rsize : ∀ b, c.R b → b < w.heap.size
  lsize : ∀ o ver bd b, objs[o]? = some (ver, bd) → bd ≠ .dead → c.has o b → b < w.heap.size
  oR : ∀ b, Own c objs b → ¬ c.R b

theorem RelObjs.osize {c : Ctx} {objs : Objs} {w : World} (h : RelObjs c objs w) : ∀ b, Own c objs b → b < w.heap.size ∧ ¬ c.R b :=
  fun b hb => ⟨by obtain ⟨o, ver, bd, h1, h2, h3⟩ := hb; exact h.lsize o ver bd b h1 (OB.mine_live h2) h3, h.oR b hb⟩

def RelV1 (c : Ctx) (objs : Objs) (w : World) : V1 → Value → Prop
  | .c x, v => RelCV c objs w x v
  | .agg xs, v => ∃ vs, v = .agg vs ∧ vs.size = xs.length ∧ ∀ (i : Nat) x, xs[i]? = some x → ∃ u, vs[i]? = some u ∧ RelCV c objs w x u

def RelSV (c : Ctx) (objs : Objs) (w : World) : SV → Value → Prop
  | .un, _ => True
  | .one x, v => RelV1 c objs w x v
  | .tup xs, v => ∃ vs, v = .tuple vs ∧ vs.size = xs.length ∧ ∀ (i : Nat) x, xs[i]? = some x → ∃ u, vs[i]? = some u ∧ RelV1 c objs w x u

/-- What a piece of code does to memory: what is not its own stays as it is. The references to the first n objects stay right. -/
structure Ext (n : Nat) (c : Ctx) (objs : Objs) (w : World) (c' : Ctx) (objs' : Objs) (w' : World) : Prop where
  size : w.heap.size ≤ w'.heap.size
  tape : w'.tape = w.tape
  os : w'.os = w.os
  output : w'.output = w.output
  keep : ∀ (b : Nat), b < w.heap.size → ¬ Own c objs b → w'.heap[b]? = w.heap[b]?
  shape : ∀ (b : Nat) cs T, w.heap[b]? = some (Obj.cells cs T (0, 0)) → ∃ cs', w'.heap[b]? = some (Obj.cells cs' T (0, 0)) ∧ cs'.size = cs.size
  own : ∀ (b : Nat), Own c' objs' b → Own c objs b ∨ w.heap.size ≤ b
  rup : ∀ b, c.R b → c'.R b
  rdown : ∀ b, c'.R b → c.R b ∨ Own c objs b ∨ w.heap.size ≤ b
  refs : ∀ o cur bd, o < n → objs[o]? = some (cur, bd) → ∃ cur' bd', objs'[o]? = some (cur', bd') ∧ cur ≤ cur' ∧ (cur' = cur → bd' ≠ .dead → bd ≠ .dead ∧ c'.φ o = c.φ o ∧ ∀ p x, c.ψ o p = some x → c'.ψ o p = some x)

theorem Ext.refl (n : Nat) (c : Ctx) (objs : Objs) (w : World) : Ext n c objs w c objs w :=
  ⟨Nat.le_refl _, rfl, rfl, rfl, fun _ _ _ => rfl, fun _ cs _ h => ⟨cs, h, rfl⟩, fun _ h => .inl h, fun _ h => h, fun _ h => .inl h, fun _ cur bd _ h => ⟨cur, bd, h, Nat.le_refl _, fun _ h => ⟨h, rfl, fun _ _ h => h⟩⟩⟩

theorem Ext.trans {n n' : Nat} {c c' c'' : Ctx} {objs objs' objs'' : Objs} {w w' w'' : World} (h : Ext n c objs w c' objs' w') (g : Ext n' c' objs' w' c'' objs'' w'') (hn : n ≤ n') : Ext n c objs w c'' objs'' w'' := by
  refine ⟨Nat.le_trans h.size g.size, g.tape.trans h.tape, g.os.trans h.os, g.output.trans h.output, ?_, ?_, ?_, fun b hb => g.rup b (h.rup b hb), ?_, ?_⟩
  · intro b hb ho
    rw [g.keep b (Nat.lt_of_lt_of_le hb h.size) (fun hc => (h.own b hc).elim ho (fun h2 => by omega)), h.keep b hb ho]
  · intro b cs T hb
    obtain ⟨cs', h1, h2⟩ := h.shape b cs T hb
    obtain ⟨cs'', h3, h4⟩ := g.shape b cs' T h1
    exact ⟨cs'', h3, h4.trans h2⟩
  · intro b hb
    rcases g.own b hb with h1 | h1
    · exact h.own b h1
    · exact .inr (Nat.le_trans h.size h1)
  · intro b hb
    rcases g.rdown b hb with h1 | h1 | h1
    · exact h.rdown b h1
    · rcases h.own b h1 with h2 | h2
      · exact .inr (.inl h2)
      · exact .inr (.inr h2)
    · exact .inr (.inr (Nat.le_trans h.size h1))
  · intro o cur bd ho hob
    obtain ⟨cur', bd', h1, h2, h3⟩ := h.refs o cur bd ho hob
    obtain ⟨cur'', bd'', g1, g2, g3⟩ := g.refs o cur' bd' (by omega) h1
    refine ⟨cur'', bd'', g1, Nat.le_trans h2 g2, fun e hd => ?_⟩
    have e1 : cur'' = cur' := by omega
    have e2 : cur' = cur := by omega
    obtain ⟨k1, k2, k5⟩ := g3 e1 hd
    obtain ⟨k3, k4, k6⟩ := h3 e2 k1
    exact ⟨k3, k2.trans k4, fun p x hp => k5 p x (k6 p x hp)⟩

theorem Ext.lower {n m : Nat} {c c' : Ctx} {objs objs' : Objs} {w w' : World} (h : Ext n c objs w c' objs' w') (hm : m ≤ n) : Ext m c objs w c' objs' w' :=
  ⟨h.size, h.tape, h.os, h.output, h.keep, h.shape, h.own, h.rup, h.rdown, fun o cur bd ho => h.refs o cur bd (by omega)⟩

section mono
variable {n : Nat} {c c' : Ctx} {objs objs' : Objs} {w w' : World}

theorem Ext.rep (h : Ext n c objs w c' objs' w') (hr : RelObjs c objs w) {d : DC} {v : Value} (hv : Rep w c.R d v) : Rep w' c'.R d v :=
  hv.mono h.rup fun b hb => h.keep b (hr.rsize b hb) (fun ho => (hr.osize b ho).2 hb)

theorem Known.lt {o ver : Nat} (h : Known objs o ver) : o < objs.length := by
  obtain ⟨cur, b, h1, _⟩ := h
  rcases Nat.lt_or_ge o objs.length with h2 | h2
  · exact h2
  · rw [List.getElem?_eq_none h2] at h1; cases h1

theorem Ext.known (h : Ext n c objs w c' objs' w') (hn : objs.length ≤ n) {o ver : Nat} (hk : Known objs o ver) :
    Known objs' o ver ∧ (Live objs' o ver → Live objs o ver ∧ c'.φ o = c.φ o ∧ ∀ p x, c.ψ o p = some x → c'.ψ o p = some x) := by
  have hlt := hk.lt
  obtain ⟨cur, b, h1, h2⟩ := hk
  obtain ⟨cur', bd', g1, g2, g3⟩ := h.refs o cur b (by omega) h1
  refine ⟨⟨cur', bd', g1, Nat.le_trans h2 g2⟩, ?_⟩
  rintro ⟨b2, k1, k2⟩
  rw [g1] at k1
  obtain ⟨rfl, rfl⟩ : cur' = ver ∧ bd' = b2 := by simpa using k1
  have e : cur' = cur := by omega
  obtain ⟨m1, m2, m3⟩ := g3 e k2
  exact ⟨⟨b, e ▸ h1, m1⟩, m2, m3⟩

theorem Ext.ptrIs (h : Ext n c objs w c' objs' w') (hn : objs.length ≤ n) {o ver off : Nat} {v : Value} (hv : PtrIs c objs o ver off v) : PtrIs c' objs' o ver off v := by
  obtain ⟨h1, hk, hl⟩ := hv
  obtain ⟨k1, k2⟩ := h.known hn hk
  refine ⟨h1, k1, fun hlive => ?_⟩
  obtain ⟨m1, m2, _⟩ := k2 hlive
  obtain ⟨b, base, p1, p2⟩ := hl m1
  exact ⟨b, base, m2.trans p1, p2⟩

theorem Ext.relCV (h : Ext n c objs w c' objs' w') (hn : objs.length ≤ n) (hr : RelObjs c objs w) {x : CV} {v : Value} (hv : RelCV c objs w x v) : RelCV c' objs' w' x v := by
  cases x with
  | d x => exact h.rep hr hv
  | nilsl => exact hv
  | esl => exact hv
  | ptr o ver off => exact h.ptrIs hn hv
  | eptr o ver e i j => exact h.ptrIs hn hv
  | ip e xs i j =>
    obtain ⟨b, off, u, h1, h2⟩ := hv
    exact ⟨b, off, u, h.rep hr h1, h2⟩
  | sl o ver e off len cap =>
    obtain ⟨h1, hk, hl⟩ := hv
    obtain ⟨k1, k2⟩ := h.known hn hk
    refine ⟨h1, k1, fun hlive => ?_⟩
    obtain ⟨m1, m2, _⟩ := k2 hlive
    obtain ⟨a, cp, p1, p2, p3, p4⟩ := hl m1
    refine ⟨a, cp, p1, p2, p3, fun h0 => ?_⟩
    obtain ⟨b, base, cs, T, q1, q2, q3, q4⟩ := p4 h0
    obtain ⟨cs', s1, s2⟩ := h.shape b cs T q3
    exact ⟨b, base, cs', T, m2.trans q1, q2, s1, by omega⟩
  | gsl o ver p e off len =>
    obtain ⟨h1, hk, hl⟩ := hv
    obtain ⟨k1, k2⟩ := h.known hn hk
    refine ⟨h1, k1, fun hlive => ?_⟩
    obtain ⟨m1, _, m2⟩ := k2 hlive
    obtain ⟨a, cp, p1, p2, p4⟩ := hl m1
    refine ⟨a, cp, p1, p2, fun h0 => ?_⟩
    obtain ⟨b, base, q1, q2⟩ := p4 h0
    exact ⟨b, base, m2 _ _ q1, q2⟩
  | gptr o ver p e i j =>
    obtain ⟨h1, hk, hl⟩ := hv
    obtain ⟨k1, k2⟩ := h.known hn hk
    refine ⟨h1, k1, fun hlive => ?_⟩
    obtain ⟨m1, _, m2⟩ := k2 hlive
    obtain ⟨b, base, q1, q2⟩ := hl m1
    exact ⟨b, base, m2 _ _ q1, q2⟩
  | mp o ver =>
    obtain ⟨h1, hk, hl⟩ := hv
    obtain ⟨k1, k2⟩ := h.known hn hk
    refine ⟨h1, k1, fun hlive => ?_⟩
    obtain ⟨m1, m2, _⟩ := k2 hlive
    obtain ⟨b, base, q1, q2⟩ := hl m1
    exact ⟨b, base, m2.trans q1, q2⟩
  | fn f caps =>
    obtain ⟨vs, h1, h2, h3⟩ := hv
    refine ⟨vs, h1, h2, fun i o ver off hi => ?_⟩
    obtain ⟨u, k1, k2⟩ := h3 i o ver off hi
    exact ⟨u, k1, h.ptrIs hn k2⟩

theorem Ext.relV1 (h : Ext n c objs w c' objs' w') (hn : objs.length ≤ n) (hr : RelObjs c objs w) {x : V1} {v : Value} (hv : RelV1 c objs w x v) : RelV1 c' objs' w' x v := by
  cases x with
  | c x => exact h.relCV hn hr hv
  | agg xs =>
    obtain ⟨vs, h1, h2, h3⟩ := hv
    refine ⟨vs, h1, h2, fun i x hi => ?_⟩
    obtain ⟨u, k1, k2⟩ := h3 i x hi
    exact ⟨u, k1, h.relCV hn hr k2⟩

theorem Ext.relSV (h : Ext n c objs w c' objs' w') (hn : objs.length ≤ n) (hr : RelObjs c objs w) {x : SV} {v : Value} (hv : RelSV c objs w x v) : RelSV c' objs' w' x v := by
  cases x with
  | un => exact trivial
  | one x => exact h.relV1 hn hr hv
  | tup xs =>
    obtain ⟨vs, h1, h2, h3⟩ := hv
    refine ⟨vs, h1, h2, fun i x hi => ?_⟩
    obtain ⟨u, k1, k2⟩ := h3 i x hi
    exact ⟨u, k1, h.relV1 hn hr k2⟩
end mono

theorem Rep.one {w : World} {R : Nat → Prop} {d : DC} {v : Value} (h : Rep w R d v) : v.oneCell' = true := by
  cases h with
  | v _ h1 => exact h1
  | list => rfl

theorem RelCV.one {c : Ctx} {objs : Objs} {w : World} {x : CV} {v : Value} (h : RelCV c objs w x v) : v.oneCell' = true := by
  cases x with
  | d x => exact Rep.one h
  | nilsl => obtain rfl := h; rfl
  | esl => obtain ⟨a, rfl⟩ := h; rfl
  | ptr o ver off => exact h.1
  | eptr o ver e i j => exact h.1
  | ip e xs i j => obtain ⟨b, off, u, _, _, _, rfl⟩ := h; rfl
  | sl o ver e off len cap => exact h.1
  | gsl o ver p e off len => exact h.1
  | gptr o ver p e i j => exact h.1
  | mp o ver => exact h.1
  | fn f caps => obtain ⟨vs, rfl, _⟩ := h; rfl

end Go.Proofs.Ytmfdkjjhdjkgpaa

namespace Go.Proofs.Ytmfdkjjhdjkgpaa
open Go Go.RowKit

structure St where
  env : List (Nat × SV)
  objs : Objs
  n : Nat

def getE : List (Nat × SV) → Nat → SV
  | [], _ => .un
  | (k, v) :: r, t => if t = k then v else getE r t

def constCV : Value → CV
  | .slice none 0 0 => .nilsl
  | v => .d (.v v)

def cvOf : DC → CV
  | .v v => constCV v
  | d => .d d

def constSV : Value → SV
  | .agg cs => if cs.toList.all Value.oneCell' then .one (.agg (cs.toList.map constCV)) else .un
  | .tuple _ => .un
  | v => .one (.c (constCV v))

def St.eval (st : St) : Operand → SV
  | .tmp t => if t < st.n then getE st.env t else .un
  | .const v => constSV v
  | .global _ => .un
  | .func f => .one (.c (.fn f []))

def St.put (st : St) (dst : Option Tmp) (v : SV) : St :=
  match dst with
  | some d => { st with env := (d, v) :: st.env }
  | none => st

inductive TK where
  | struct (fs : List (Nat × Nat))
  | array (n : Nat) (e : TypeId)
  | slice (e : TypeId)
  | map (k e : TypeId)
  | str
  | int (k : IntKind)
  | bool
  | bad
  | other

structure TyI where
  size : Nat
  bytes : Nat
  zero : List CV
  kind : TK

def kindX (P : Program) (t : TypeId) : TK :=
  match P.underlying t with
  | some (.struct fs) =>
    match fs.toList.mapM (fun f => (P.info? f.type).map fun i => (f.offset, i.size)) with
    | some ps => .struct ps
    | none => .bad
  | some (.array n e) => .array n e
  | some (.slice e) => .slice e
  | some (.map k e) => .map k e
  | some .string => .str
  | some (.int k) => .int k
  | some .bool => .bool
  | _ => .other

def isAggV : Value → Bool
  | .agg _ => true
  | _ => false

def TK.agg : TK → Bool
  | .struct _ | .array _ _ | .bad => true
  | _ => false

def tyX (P : Program) (t : TypeId) : Option TyI :=
  (P.info? t).bind fun i => i.zero.bind fun z =>
    if z.cells.toList.all Value.oneCell' && z.cells.size == i.size && (P.underlying t).isSome && isAggV z == (kindX P t).agg then some { size := i.size, bytes := i.bytes, zero := z.cells.toList.map constCV, kind := kindX P t } else none

/-- A program, with what is known of its types -/
structure Gen where
  P : Program
  ty : TypeId → Option TyI
  ok : ∀ t T, ty t = some T → tyX P t = some T
  mixed : P.follows .mixedOrders = true
  sized : Nat.blt 0 P.types.size = true

abbrev vI (n : Int) : CV := .d (.v (.int .i64 n))
abbrev vB (b : Bool) : CV := .d (.v (.bool b))

def SV.cells : SV → Option (List CV)
  | .one (.c x) => some [x]
  | .one (.agg xs) => some xs
  | _ => none

/-- The version of an object that is there, and the object. -/
def objAt (objs : Objs) (o ver : Nat) : Option OB :=
  match objs[o]? with
  | some (v, b) => if v = ver then some b else none
  | none => none

def aliveB (objs : Objs) (o ver : Nat) : Bool :=
  match objAt objs o ver with
  | some .dead => false
  | some _ => true
  | none => false

abbrev alive (objs : Objs) (o ver : Nat) : Prop := aliveB objs o ver = true

def peel : OB → OB
  | .fro _ b => peel b
  | b => b

/-- What an object holds, whoever may write it. -/
def objRd (objs : Objs) (o ver : Nat) : Option OB :=
  match objAt objs o ver with
  | some .dead => none
  | some b => some (peel b)
  | none => none

/-- The row in cell p of a row of elements of e cells. -/
def rowAt (e : Nat) (xs : List (List GC)) (p : Nat) : Option (Nat × List (List DC)) :=
  match (xs[p / e]?).bind (·[p % e]?) with
  | some (.row e' ys) => some (e', ys)
  | _ => none

def setG (e : Nat) (xs : List (List GC)) (p : Nat) (g : GC) : List (List GC) :=
  match xs[p / e]? with
  | some x => xs.set (p / e) (x.set (p % e) g)
  | none => xs

/-- A row in a row, whichever it is. -/
structure RowAt (e0 : Nat) (xs : List (List GC)) (p e : Nat) (P : List (List DC) → Prop) : Prop where
  ex : ∃ ys, rowAt e0 xs p = some (e, ys) ∧ P ys

theorem RowAt.mk' {e0 : Nat} {xs : List (List GC)} {p e : Nat} {P : List (List DC) → Prop} {ys : List (List DC)} (h : rowAt e0 xs p = some (e, ys)) (g : P ys) : RowAt e0 xs p e P := ⟨ys, h, g⟩

/-- An element of a list with rows in it, whichever it is. -/
structure ElG (xs : List (List GC)) (i : Nat) (p : List GC → Prop) : Prop where
  all : ∀ x, xs[i]? = some x → p x

/-- What a map has at a key. -/
structure MapAt (es : List (List Int × DV)) (k : List Int) (p : Option DV → Prop) : Prop where
  at_ : p (es.lookup k)

def updM (es : List (List Int × DV)) (k : List Int) (v : DV) : List (List Int × DV) :=
  match es with
  | [] => [(k, v)]
  | (k', v') :: r => if k' == k then (k, v) :: r else (k', v') :: updM r k v

/-- A test that is decided on the spot. -/
def chkP (p : Prop) [Decidable p] (q : Prop) : Prop :=
  match decide p with
  | true => q
  | false => False

theorem chkP_iff {p q : Prop} [Decidable p] : chkP p q ↔ p ∧ q := by
  unfold chkP
  split
  · rename_i h; exact ⟨fun g => ⟨of_decide_eq_true h, g⟩, (·.2)⟩
  · rename_i h; exact ⟨fun g => g.elim, fun g => absurd g.1 (of_decide_eq_false h)⟩

/-- A test that may go both ways. -/
def Br (t : Bool) (p q : Prop) : Prop := @Bool.rec (fun _ => Prop) q p t

theorem Br.mk {t : Bool} {p q : Prop} (h : t = true → p) (g : t = false → q) : Br t p q := by
  cases t
  · exact g rfl
  · exact h rfl

theorem Br.yes {t : Bool} {p q : Prop} (h : Br t p q) (ht : t = true) : p := by subst ht; exact h

theorem Br.no {t : Bool} {p q : Prop} (h : Br t p q) (ht : t = false) : q := by subst ht; exact h

/-- A guard: what is to be done if the test is as wanted, and if not. -/
def Gd (t want : Bool) (p q : Prop) : Prop :=
  match want with
  | true => Br t p q
  | false => Br t q p

theorem Gd.yes {t want : Bool} {p q : Prop} (h : Gd t want p q) (ht : t = want) : p := by
  subst ht; cases t <;> exact h

theorem Gd.no {t want : Bool} {p q : Prop} (h : Gd t want p q) (ht : t ≠ want) : q := by
  cases want <;> cases t
  · exact absurd rfl ht
  · exact h
  · exact h
  · exact absurd rfl ht

/-- An element of a list, whichever it is. -/
structure El (xs : List (List DC)) (i : Nat) (p : List DC → Prop) : Prop where
  all : ∀ x, xs[i]? = some x → p x

theorem El.get {xs : List (List DC)} {i : Nat} {p : List DC → Prop} {x : List DC} (h : xs[i]? = some x) (g : p x) : El xs i p :=
  ⟨fun y hy => by rw [h] at hy; cases hy; exact g⟩

def fNatIn : List Nat → Nat → (Nat → Prop) → Prop
  | [], n, K => K n
  | l :: r, n, K => match Nat.beq n l with
    | true => K l
    | false => fNatIn r n K

/-- A small number, as a numeral. -/
def fNat (n : Nat) (K : Nat → Prop) : Prop := fNatIn [0, 1, 2, 3, 4, 5, 6, 7, 8, 9, 10, 11, 12, 13, 14, 15, 16, 17, 18, 19, 20, 21, 22, 23, 24, 25, 26, 27, 28, 29, 30, 31, 32, 33, 34, 35, 36, 37, 38, 39, 40, 41, 42, 43, 44, 45, 46, 47, 48, 49, 50, 51, 52, 53, 54, 55, 56, 57, 58, 59] n K

theorem fNatIn_eq (n : Nat) (K : Nat → Prop) : ∀ l, fNatIn l n K = K n
  | [] => rfl
  | l :: r => by
    unfold fNatIn
    split
    · rename_i h; rw [Nat.eq_of_beq_eq_true h]
    · exact fNatIn_eq n K r

theorem fNat_eq (n : Nat) (K : Nat → Prop) : fNat n K = K n := fNatIn_eq n K _

/-- A value, laid open to its head. -/
def fDC (x : DC) (K : DC → Prop) : Prop :=
  match x with
  | .v (.int k n) => K (.v (.int k n))
  | .v (.bool b) => K (.v (.bool b))
  | .v (.string s) => K (.v (.string s))
  | .v y => K (.v y)
  | .list e xs => K (.list e xs)

theorem fDC_eq (x : DC) (K : DC → Prop) : fDC x K = K x := by
  unfold fDC; split <;> rfl

def fCV (x : CV) (K : CV → Prop) : Prop :=
  match x with
  | .d y => fDC y fun y => K (.d y)
  | .nilsl => K .nilsl
  | .esl => K .esl
  | .ptr o ver off => fNat o fun o => fNat ver fun ver => fNat off fun off => K (.ptr o ver off)
  | .eptr o ver e i j => fNat o fun o => fNat ver fun ver => fNat e fun e => fNat j fun j => K (.eptr o ver e i j)
  | .ip e xs i j => fNat j fun j => K (.ip e xs i j)
  | .sl o ver e off len cap => fNat o fun o => fNat ver fun ver => fNat e fun e => K (.sl o ver e off len cap)
  | .gsl o ver p e off len => fNat o fun o => fNat ver fun ver => fNat e fun e => K (.gsl o ver p e off len)
  | .gptr o ver p e i j => fNat o fun o => fNat ver fun ver => fNat e fun e => fNat j fun j => K (.gptr o ver p e i j)
  | .mp o ver => fNat o fun o => fNat ver fun ver => K (.mp o ver)
  | .fn f caps => K (.fn f caps)

theorem fCV_eq (x : CV) (K : CV → Prop) : fCV x K = K x := by
  unfold fCV; split <;> simp [fNat_eq, fDC_eq]

def fCs : List CV → (List CV → Prop) → Prop
  | [], K => K []
  | x :: r, K => fCV x fun x => fCs r fun r => K (x :: r)

theorem fCs_eq : ∀ (xs : List CV) (K : List CV → Prop), fCs xs K = K xs
  | [], _ => rfl
  | x :: r, K => by unfold fCs; rw [fCV_eq, fCs_eq r]

def fV1 (x : V1) (K : V1 → Prop) : Prop :=
  match x with
  | .c x => fCV x fun x => K (.c x)
  | .agg xs => fCs xs fun xs => K (.agg xs)

theorem fV1_eq (x : V1) (K : V1 → Prop) : fV1 x K = K x := by
  unfold fV1; split <;> simp [fCV_eq, fCs_eq]

def fVs : List V1 → (List V1 → Prop) → Prop
  | [], K => K []
  | x :: r, K => fV1 x fun x => fVs r fun r => K (x :: r)

theorem fVs_eq : ∀ (xs : List V1) (K : List V1 → Prop), fVs xs K = K xs
  | [], _ => rfl
  | x :: r, K => by unfold fVs; rw [fV1_eq, fVs_eq r]

def fSV (x : SV) (K : SV → Prop) : Prop :=
  match x with
  | .un => K .un
  | .one x => fV1 x fun x => K (.one x)
  | .tup xs => fVs xs fun xs => K (.tup xs)

theorem fSV_eq (x : SV) (K : SV → Prop) : fSV x K = K x := by
  unfold fSV; split <;> simp [fV1_eq, fVs_eq]

def fOB (b : OB) (K : OB → Prop) : Prop :=
  match b with
  | .dead => K .dead
  | .box cs => fCs cs fun cs => K (.box cs)
  | .arr e xs => fNat e fun e => K (.arr e xs)
  | .grid e xs => fNat e fun e => K (.grid e xs)
  | .map a es => K (.map a es)
  | .fro r b => fOB b fun b => match r with
    | true => K (.fro true b)
    | false => K (.fro false b)

theorem fOB_eq : ∀ (b : OB) (K : OB → Prop), fOB b K = K b
  | .dead, _ => rfl
  | .box cs, _ => by simp [fOB, fCs_eq]
  | .arr e xs, _ => by simp [fOB, fNat_eq]
  | .grid e xs, _ => by simp [fOB, fNat_eq]
  | .map a es, _ => rfl
  | .fro true b, _ => by simp [fOB, fOB_eq b]
  | .fro false b, _ => by simp [fOB, fOB_eq b]

def fObjs : Objs → (Objs → Prop) → Prop
  | [], K => K []
  | (v, b) :: r, K => fNat v fun v => fOB b fun b => fObjs r fun r => K ((v, b) :: r)

theorem fObjs_eq : ∀ (xs : Objs) (K : Objs → Prop), fObjs xs K = K xs
  | [], _ => rfl
  | (v, b) :: r, K => by unfold fObjs; rw [fNat_eq, fOB_eq, fObjs_eq r]

def binInt (op : BinOp) (k : IntKind) (a b : Int) (K : CV → Prop) : Prop :=
  match op with
  | .add => K (.d (.v (.int k (k.wrap (a + b)))))
  | .sub => K (.d (.v (.int k (k.wrap (a - b)))))
  | .mul => K (.d (.v (.int k (k.wrap (a * b)))))
  | .quo => b ≠ 0 ∧ K (.d (.v (.int k (k.wrap (a.tdiv b)))))
  | .rem => b ≠ 0 ∧ K (.d (.v (.int k (a.tmod b))))
  | .eql => K (vB (a == b))
  | .neq => K (vB (a != b))
  | .lss => K (vB (decide (a < b)))
  | .leq => K (vB (decide (a ≤ b)))
  | .gtr => K (vB (decide (a > b)))
  | .geq => K (vB (decide (a ≥ b)))
  | _ => False

def binX (isB : Bool) (op : BinOp) (x y : CV) (K : CV → Prop) : Prop :=
  match x, y with
  | .d (.v (.bool a)), .d (.v (.bool b)) =>
    match isB with
    | false => False
    | true => match op with
      | .eql => K (vB (a == b))
      | .neq => K (vB (!(a == b)))
      | _ => False
  | .d (.v (.int k a)), .d (.v (.int k' b)) =>
    match op with
    | .shl => 0 ≤ b ∧ K (.d (.v (.int k (k.wrap (a * 2 ^ (min b.toNat k.bits))))))
    | .shr => 0 ≤ b ∧ K (.d (.v (.int k (a.fdiv (2 ^ (min b.toNat k.bits))))))
    | .and => chkP (k = k') <| K (.d (.v (.int k (k.wrap ((BitVec.ofInt k.bits a &&& BitVec.ofInt k.bits b).toNat : Int)))))
    | op => chkP (k = k') <| binInt op k a b K
  | .d (.v (.string a)), .d (.v (.string b)) =>
    match op with
    | .add => a.size + b.size ≤ 140737488351232 ∧ K (.d (.v (.string (a ++ b))))
    | .eql => K (vB (a.toList == b.toList))
    | .neq => K (vB (!(a.toList == b.toList)))
    | _ => False
  | _, _ => False

/-- A slice may be nil only if p. -/
structure NilQ (p A B : Prop) : Prop where
  nil : p → A
  no : B

/-- A slice against nil. -/
def nilX (objs : Objs) (op : BinOp) (x : CV) (K : CV → Prop) : Prop :=
  match op with
  | .eql => (match x with
    | .nilsl => K (vB true)
    | .d (.list e xs) => NilQ (xs = [] ∨ e = 0) (K (vB true)) (K (vB false))
    | .sl o ver _ _ len _ => chkP (alive objs o ver) <| NilQ (len = 0) (K (vB true)) (K (vB false))
    | _ => False)
  | .neq => (match x with
    | .nilsl => K (vB false)
    | .d (.list e xs) => NilQ (xs = [] ∨ e = 0) (K (vB false)) (K (vB true))
    | .sl o ver _ _ len _ => chkP (alive objs o ver) <| NilQ (len = 0) (K (vB false)) (K (vB true))
    | _ => False)
  | _ => False

def unX (op : UnOp) (x : CV) (K : CV → Prop) : Prop :=
  match op, x with
  | .not, .d (.v (.bool b)) => K (vB (!b))
  | .neg, .d (.v (.int k n)) => K (.d (.v (.int k (k.wrap (0 - n)))))
  | _, _ => False

/-- n cells from place off on, as one value of a type. -/
def takeX (T : TyI) (cs : List CV) (off : Nat) (K : V1 → Prop) : Prop :=
  if T.kind.agg then chkP (off + T.size ≤ cs.length) <| K (.agg ((cs.drop off).take T.size))
  else match cs[off]? with
    | some x => K (.c x)
    | none => False

/-- The cells of an element that may hold rows of its own. -/
def cvsG (o ver : Nat) : Nat → List GC → List CV
  | _, [] => []
  | p, .d x :: r => cvOf x :: cvsG o ver (p + 1) r
  | p, .row e ys :: r => .gsl o ver p e 0 ys.length :: cvsG o ver (p + 1) r

def loadX (T : TyI) (objs : Objs) (x : CV) (K : V1 → Prop) : Prop :=
  match x with
  | .ptr o ver off =>
    match objRd objs o ver with
    | some (.box cs) => takeX T cs off K
    | _ => False
  | .eptr o ver e i j =>
    match objRd objs o ver with
    | some (.arr e' xs) => chkP (e = e') <| i < xs.length ∧ El xs i fun x => takeX T (x.map cvOf) j K
    | some (.grid e' xs) => chkP (e = e') <| i < xs.length ∧ ElG xs i fun x => takeX T (cvsG o ver (i * e) x) j K
    | _ => False
  | .gptr o ver p e i j =>
    match objRd objs o ver with
    | some (.grid e0 xs) => RowAt e0 xs p e fun ys => i < ys.length ∧ El ys i fun x => takeX T (x.map cvOf) j K
    | _ => False
  | .ip _ xs i j => El xs i fun x => takeX T (x.map cvOf) j K
  | _ => False

def setCells : List CV → Nat → List CV → List CV
  | cs, _, [] => cs
  | cs, off, v :: r => setCells (cs.set off v) (off + 1) r

def setDC : List DC → Nat → List DC → List DC
  | cs, _, [] => cs
  | cs, off, v :: r => setDC (cs.set off v) (off + 1) r

/-- A cell's value as a datum that is no reference to an object. -/
def dcOf : CV → Option DC
  | .d x => some x
  | .nilsl => some (.v (.slice none 0 0))
  | _ => none

def dcsOf : List CV → Option (List DC)
  | [] => some []
  | x :: r => match dcOf x, dcsOf r with
    | some d, some ds => some (d :: ds)
    | _, _ => none

/-- A cell's value as a datum: an own row is not written any more. -/
def freezeC (objs : Objs) : CV → Option (DC × Objs)
  | .d x => some (x, objs)
  | .nilsl => some (.v (.slice none 0 0), objs)
  | .sl o ver e off len _ =>
    match objAt objs o ver with
    | some (.arr e' xs) => if e' = e ∧ 0 < e then some (.list e ((xs.drop off).take len), objs.set o (ver, .fro true (.arr e' xs))) else none
    | some (.fro true (.arr e' xs)) => if e' = e ∧ 0 < e then some (.list e ((xs.drop off).take len), objs) else none
    | _ => none
  | _ => none

def freezeOK (objs : Objs) : CV → Prop
  | .sl o ver _ off len _ =>
    match objAt objs o ver with
    | some (.arr _ xs) => off + len ≤ xs.length
    | some (.fro true (.arr _ xs)) => off + len ≤ xs.length
    | _ => False
  | _ => True

/-- The cell holds no row of its own. -/
def isGD (x : List GC) (j : Nat) : Bool :=
  match x[j]? with
  | some (.d _) => true
  | _ => false

def storeX (T : TyI) (objs : Objs) (x : CV) (vs : List CV) (K : Objs → Prop) : Prop :=
  chkP (vs.length = T.size) <|
  match x with
  | .gptr o ver p e i j =>
    match vs with
    | [v] => freezeOK objs v ∧
      (match freezeC objs v with
      | some (d, objs) => match objAt objs o ver with
        | some (.grid e0 xs) => chkP (j < e) <| RowAt e0 xs p e fun ys => i < ys.length ∧ El ys i fun x => K (objs.set o (ver, .grid e0 (setG e0 xs p (.row e (ys.set i (x.set j d))))))
        | _ => False
      | none => False)
    | _ => False
  | .ptr o ver off =>
    match objAt objs o ver with
    | some (.box cs) => chkP (off + T.size ≤ cs.length) <| K (objs.set o (ver, .box (setCells cs off vs)))
    | _ => False
  | .eptr o ver e i j =>
    match objAt objs o ver, dcsOf vs with
    | some (.arr e' xs), some ds => chkP (e = e') <| chkP (j + T.size ≤ e) <| i < xs.length ∧ (match Nat.beq T.size e with
      | true => K (objs.set o (ver, .arr e (xs.set i ds)))
      | false => El xs i fun x => K (objs.set o (ver, .arr e (xs.set i (setDC x j ds)))))
    | some (.grid e' xs), _ => match vs with
      | [.d d] => chkP (e = e' ∧ j < e) <| i < xs.length ∧ ElG xs i fun x => isGD x j = true ∧ K (objs.set o (ver, .grid e' (xs.set i (x.set j (.d d)))))
      | [.sl o' ver' e2 off' len' _] => match objAt objs o' ver' with
        | some (.arr e3 ys) => chkP (o' ≠ o) <| chkP (e3 = e2 ∧ off' = 0) <| chkP (e = e' ∧ e = 1 ∧ j = 0) <| i < xs.length ∧ len' ≤ ys.length ∧ ElG xs i fun x => x = [.d (.v (.slice none 0 0))] ∧
            K ((objs.set o (ver, .grid e' (xs.set i [.row e2 (ys.take len')]))).set o' (ver', .dead))
        | _ => False
      | _ => False
    | _, _ => False
  | _ => False

def fieldX (T : TyI) (objs : Objs) (x : CV) (f : Nat) (K : CV → Prop) : Prop :=
  match T.kind with
  | .struct fs =>
    match fs[f]? with
    | some (off, n) => chkP (n ≠ 0) <| (match x with
      | .ptr o ver p => chkP (alive objs o ver) <| K (.ptr o ver (p + off))
      | .eptr o ver e i j => chkP (alive objs o ver) <| K (.eptr o ver e i (j + off))
      | .gptr o ver p e i j => chkP (alive objs o ver) <| K (.gptr o ver p e i (j + off))
      | .ip e xs i j => K (.ip e xs i (j + off))
      | _ => False)
    | none => False
  | _ => False

def indexX (T : TyI) (n : Nat) (objs : Objs) (x i : CV) (K : CV → Prop) : Prop :=
  match T.kind, i with
  | .slice _, .d (.v (.int _ i)) =>
    match x with
    | .sl o ver e off len _ =>
      match objRd objs o ver with
      | some (.arr _ _) => chkP (n = e) <| 0 ≤ i ∧ i < len ∧ K (.eptr o ver e (off + i.toNat) 0)
      | some (.grid _ _) => chkP (n = e) <| 0 ≤ i ∧ i < len ∧ K (.eptr o ver e (off + i.toNat) 0)
      | _ => False
    | .gsl o ver p e off len => chkP (alive objs o ver) <| chkP (n = e) <| 0 ≤ i ∧ i < len ∧ K (.gptr o ver p e (off + i.toNat) 0)
    | .d (.list e xs) => chkP (n = e) <| 0 ≤ i ∧ i < xs.length ∧ K (.ip e xs i.toNat 0)
    | _ => False
  | .array len _, .d (.v (.int _ i)) =>
    match x with
    | .ptr o ver off => chkP (alive objs o ver) <| 0 ≤ i ∧ i < len ∧ K (.ptr o ver (off + i.toNat * n))
    | _ => False
  | _, _ => False

/-- A slice of an array that lies in an object. -/
def sliceArrX (esz n : Nat) (objs : Objs) (x : CV) (lo hi mx : Option Int) (K : CV → Prop) : Prop :=
  match x with
  | .ptr o ver p =>
    match objRd objs o ver with
    | some (.box cs) => chkP (esz = 1) <| chkP (mx = none) <| chkP (p + n ≤ cs.length) <| 0 ≤ lo.getD 0 ∧ lo.getD 0 ≤ hi.getD n ∧ hi.getD n ≤ n ∧
        K (.sl o ver 1 (p + (lo.getD 0).toNat) ((hi.getD n).toNat - (lo.getD 0).toNat) (some (n - (lo.getD 0).toNat)))
    | _ => False
  | _ => False

def boxRow : List CV → Option (List (List DC))
  | [] => some []
  | .d x :: r => match boxRow r with
    | some xs => some ([x] :: xs)
    | none => none
  | _ => none

def fillX (fs : List (Nat × Nat)) (cs : List CV) : List (Nat × List CV) → Option (List CV)
  | [] => some cs
  | (i, v) :: r => match fs[i]? with
    | some (off, n) => if v.length = n ∧ off + n ≤ cs.length then fillX fs (setCells cs off v) r else none
    | none => none

def partsX (st : St) : List (Nat × Operand) → Option (List (Nat × List CV))
  | [] => some []
  | (i, x) :: r => match (st.eval x).cells, partsX st r with
    | some cs, some ps => some ((i, cs) :: ps)
    | _, _ => none

/-- The elements that a slice has. -/
def contentX (objs : Objs) (e : Nat) : CV → Option (List (List DC))
  | .nilsl => some []
  | .esl => some []
  | .d (.list e' xs) => if e' = e then some xs else none
  | .sl o ver e' off len _ =>
    match objRd objs o ver with
    | some (.arr e'' xs) => if e' = e ∧ e'' = e then some ((xs.drop off).take len) else none
    | _ => none
  | _ => none

def contentOK (objs : Objs) : CV → Prop
  | .sl o ver _ off len _ =>
    match objRd objs o ver with
    | some (.arr _ xs) => off + len ≤ xs.length
    | _ => False
  | _ => True

def lenX (k : TK) (objs : Objs) (x : CV) (K : CV → Prop) : Prop :=
  match k with
  | .slice _ => match x with
    | .nilsl => K (vI 0)
    | .esl => K (vI 0)
    | .d (.list _ xs) => K (vI xs.length)
    | .sl o ver _ _ len _ => chkP (alive objs o ver) <| K (vI len)
    | .gsl o ver _ _ _ len => chkP (alive objs o ver) <| K (vI len)
    | _ => False
  | .str => match x with
    | .d (.v (.string s)) => K (vI s.size)
    | _ => False
  | _ => False

/-- Rows written over others, from place p on. -/
def spliceL (xs ys : List (List DC)) (p : Nat) : List (List DC) := xs.take p ++ ys ++ xs.drop (p + ys.length)

/-- What is added is of the row itself, and the row's capacity is told. -/
def inPlace (o : Nat) (cap : Option Nat) (x : CV) : Option Nat :=
  match x with
  | .sl o' _ _ _ _ _ => match Nat.beq o o' with
    | true => cap
    | false => none
  | _ => none

def appendO (T : TyI) (objs : Objs) (s x : CV) (K : CV → Objs → Prop) : Prop :=
  contentOK objs x ∧
  match contentX objs T.size x with
  | some ys =>
    match s with
    | .nilsl => ys.length * T.bytes ≤ 2 ^ 40 ∧ ys.length ≤ 2 ^ 40 ∧ K (.sl objs.length 1 T.size 0 ys.length none) (objs ++ [(1, .arr T.size ys)])
    | .esl => ys.length * T.bytes ≤ 2 ^ 40 ∧ ys.length ≤ 2 ^ 40 ∧ K (.sl objs.length 1 T.size 0 ys.length none) (objs ++ [(1, .arr T.size ys)])
    | .sl o ver e off len cap =>
      match inPlace o cap x with
      | some cp => (match objAt objs o ver with
        | some (.arr e' xs) => chkP (e = T.size) <| chkP (e' = e) <| off + len + ys.length ≤ xs.length ∧ len + ys.length ≤ cp ∧ (len + ys.length) * T.bytes ≤ 2 ^ 40 ∧ len + ys.length ≤ 2 ^ 40 ∧
            K (.sl o ver e off (len + ys.length) (some cp)) (objs.set o (ver, .arr e (spliceL xs ys (off + len))))
        | _ => False)
      | none =>
      match objAt objs o ver with
      | some (.arr e' xs) => chkP (e = T.size) <| chkP (e' = e) <| off + len ≤ xs.length ∧ (len + ys.length) * T.bytes ≤ 2 ^ 40 ∧ len + ys.length ≤ 2 ^ 40 ∧
          K (.sl o (ver + 1) e 0 (len + ys.length) none) (objs.set o (ver + 1, .arr e ((xs.drop off).take len ++ ys)))
      | _ => False
    | _ => False
  | none => False

/-- A row whose cells may hold rows, or an empty row. -/
def outerOf (objs : Objs) (o ver : Nat) : Option (Nat × List (List GC)) :=
  match objAt objs o ver with
  | some (.grid e xs) => some (e, xs)
  | some (.arr e []) => some (e, [])
  | _ => none

/-- A whole row whose cells hold rows. -/
def gridOf (objs : Objs) (x : CV) : Option (Nat × Nat × Nat × Nat × List (List GC)) :=
  match x with
  | .sl o ver e off len _ =>
    match objAt objs o ver with
    | some (.grid e' ys) => match Nat.beq e e', Nat.beq off 0 with
      | true, true => some (o, ver, e, len, ys)
      | _, _ => none
    | _ => none
  | _ => none

/-- Appends a row whose cells hold rows: it is gone then. -/
def appendG (T : TyI) (objs : Objs) (s : CV) (o' ver' e len' : Nat) (ys : List (List GC)) (K : CV → Objs → Prop) : Prop :=
  match s with
  | .sl o ver e1 off len _ =>
    match outerOf objs o ver with
    | some (e2, xs) => chkP (o' ≠ o ∧ e = T.size ∧ e1 = T.size ∧ e2 = T.size ∧ off = 0) <| len' = ys.length ∧ 0 < len' ∧ len = xs.length ∧ (len + len') * T.bytes ≤ 2 ^ 40 ∧ len + len' ≤ 2 ^ 40 ∧
        K (.sl o (ver + 1) T.size 0 (len + len') none) ((objs.set o (ver + 1, .grid T.size (xs ++ ys))).set o' (ver', .dead))
    | none => False
  | _ => False

def appendX (T : TyI) (objs : Objs) (s x : CV) (K : CV → Objs → Prop) : Prop :=
  match gridOf objs x with
  | some (o', ver', e, len', ys) => appendG T objs s o' ver' e len' ys K
  | none => appendO T objs s x K

/-- Cells of which one is a row of the call's own. -/
def splitOwn : List CV → Option (List DC × (Nat × Nat × Nat × Nat) × List DC)
  | [] => none
  | .sl o ver e off len _ :: r => match Nat.beq off 0, dcsOf r with
    | true, some ds => some ([], (o, ver, e, len), ds)
    | _, _ => none
  | x :: r => match dcOf x, splitOwn r with
    | some d, some (a, q, b) => some (d :: a, q, b)
    | _, _ => none

def ownPart : List (Nat × List CV) → Option (List DC × (Nat × Nat × Nat × Nat) × List DC)
  | [(0, cs)] => splitOwn cs
  | _ => none

/-- A copy that fits. -/
def copyX (T : TyI) (objs : Objs) (d x : CV) (K : CV → Objs → Prop) : Prop :=
  contentOK objs x ∧
  match contentX objs T.size x with
  | some ys =>
    match d with
    | .sl o ver e off len _ =>
      match objAt objs o ver with
      | some (.arr e' xs) => chkP (e = T.size) <| chkP (e' = e) <| off + len ≤ xs.length ∧ ys.length ≤ len ∧ K (vI ys.length) (objs.set o (ver, .arr e (spliceL xs ys off)))
      | _ => False
    | _ => False
  | none => False

/-- Elements set to nought. -/
def clearX (T : TyI) (objs : Objs) (x : CV) (K : Objs → Prop) : Prop :=
  match dcsOf T.zero, x with
  | some z, .sl o ver e off len _ =>
    match objAt objs o ver with
    | some (.arr e' xs) => chkP (e = T.size) <| chkP (e' = e) <| off + len ≤ xs.length ∧ K (objs.set o (ver, .arr e (spliceL xs (List.replicate len z) off)))
    | _ => False
  | _, _ => False

/-- A key: a row of numbers. -/
def keyX : List CV → Option (List Int)
  | [] => some []
  | .d (.v (.int .i64 n)) :: r => match keyX r with
    | some k => some (n :: k)
    | none => none
  | _ => none

def freezeCs (objs : Objs) : List CV → Option (List DC × Objs)
  | [] => some ([], objs)
  | x :: r => match freezeC objs x with
    | some (d, objs) => match freezeCs objs r with
      | some (ds, objs) => some (d :: ds, objs)
      | none => none
    | none => none

def freezeOKs (objs : Objs) : List CV → Prop
  | [] => True
  | x :: r => freezeOK objs x ∧ (match freezeC objs x with
    | some (_, objs) => freezeOKs objs r
    | none => False)

def freezeV (objs : Objs) : V1 → Option (DV × Objs)
  | .c x => match freezeC objs x with
    | some (d, objs) => some (.c d, objs)
    | none => none
  | .agg xs => match freezeCs objs xs with
    | some (ds, objs) => some (.agg ds, objs)
    | none => none

def freezeVOK (objs : Objs) : V1 → Prop
  | .c x => freezeOK objs x
  | .agg xs => freezeOKs objs xs

def dvX : DV → V1
  | .c x => .c (cvOf x)
  | .agg xs => .agg (xs.map cvOf)

/-- A map's types: keys of n numbers, and what it holds. -/
def mapTy (G : TypeId → Option TyI) (t : TypeId) : Option (Nat × TyI) :=
  match G t with
  | some T => match T.kind with
    | .map kt et => match G kt, G et with
      | some Kt, some E => match Kt.kind with
        | .array n ie => match G ie with
          | some I => match I.kind with
            | .int .i64 => if I.size = 1 ∧ Kt.size = n then some (n, E) else none
            | _ => none
          | none => none
        | _ => none
      | _, _ => none
    | _ => none
  | none => none

def zeroX (E : TyI) (K : V1 → Prop) : Prop :=
  match E.kind.agg with
  | true => K (.agg E.zero)
  | false => match E.zero with
    | [x] => K (.c x)
    | _ => False

def lookupX (n : Nat) (E : TyI) (objs : Objs) (x : CV) (ix : List CV) (ok : Bool) (k : SV → Prop) : Prop :=
  match x, keyX ix with
  | .mp o ver, some key => match objRd objs o ver with
    | some (.map n' es) => chkP (n' = n) <| keyOK n key ∧ MapAt es key fun r => match r with
      | some v => (match ok with
        | true => k (.tup [dvX v, .c (vB true)])
        | false => k (.one (dvX v)))
      | none => zeroX E fun z => (match ok with
        | true => k (.tup [z, .c (vB false)])
        | false => k (.one z))
    | _ => False
  | _, _ => False

def updX (n : Nat) (objs : Objs) (x : CV) (ix : List CV) (v : V1) (K : Objs → Prop) : Prop :=
  match x, keyX ix with
  | .mp o ver, some key => freezeVOK objs v ∧ (match freezeV objs v with
    | some (d, objs) => match objAt objs o ver with
      | some (.map n' es) => chkP (n' = n) <| keyOK n key ∧ K (objs.set o (ver, .map n (updM es key d)))
      | _ => False
    | none => False)
  | _, _ => False

/-- The parts of a row that is built, own rows in them not written any more. -/
def freezePs (objs : Objs) : List (Nat × List CV) → Option (List (Nat × List CV) × Objs)
  | [] => some ([], objs)
  | (i, xs) :: r => match freezeCs objs xs with
    | some (ds, objs) => match freezePs objs r with
      | some (ps, objs) => some ((i, ds.map CV.d) :: ps, objs)
      | none => none
    | none => none

def freezePsOK (objs : Objs) : List (Nat × List CV) → Prop
  | [] => True
  | (_, xs) :: r => freezeOKs objs xs ∧ (match freezeCs objs xs with
    | some (_, objs) => freezePsOK objs r
    | none => False)

/-- Rows in a new row stay one's own, or are not written any more. -/
inductive OwnQ (p q : Prop) : Prop
  | own (h : p) : OwnQ p q
  | frz (h : q) : OwnQ p q

def intOfSV : SV → Option Int
  | .one (.c (.d (.v (.int _ n)))) => some n
  | _ => none

def strSliceX (x : CV) (lo hi mx : Option Int) (K : CV → Prop) : Prop :=
  match x with
  | .d (.v (.string s)) => mx = none ∧ 0 ≤ lo.getD 0 ∧ lo.getD 0 ≤ hi.getD s.size ∧ hi.getD s.size ≤ s.size ∧ K (.d (.v (.string (s.extract (lo.getD 0).toNat (hi.getD s.size).toNat))))
  | _ => False

def buildSliceX (e : Nat) (xs : List (List DC)) : List (Nat × List CV) → Option (List (List DC))
  | [] => some xs
  | (i, v) :: r => match dcsOf v with
    | some ds => if ds.length = e ∧ i < xs.length then buildSliceX e (xs.set i ds) r else none
    | none => none

def sliceX (n : Nat) (objs : Objs) (x : CV) (lo hi mx : Option Int) (K : CV → Prop) : Prop :=
  match x with
  | .d (.list e xs) => chkP (n = e) <| 0 ≤ lo.getD 0 ∧ lo.getD 0 ≤ hi.getD xs.length ∧ hi.getD xs.length ≤ xs.length ∧
      (match mx with
        | none => K (.d (.list e ((xs.drop (lo.getD 0).toNat).take ((hi.getD xs.length).toNat - (lo.getD 0).toNat))))
        | some m => m = lo.getD 0 ∧ hi = some m ∧ K .esl)
  | .sl o ver e off len none => chkP (n = e) <| chkP (alive objs o ver) <| 0 ≤ lo.getD 0 ∧ lo.getD 0 ≤ hi.getD len ∧ hi.getD len ≤ len ∧
      (match mx with
        | none => K (.sl o ver e (off + (lo.getD 0).toNat) ((hi.getD len).toNat - (lo.getD 0).toNat) none)
        | some m => m = lo.getD 0 ∧ hi = some m ∧ K .esl)
  | .sl o ver e off len (some cap) => chkP (n = e) <| chkP (alive objs o ver) <| 0 ≤ lo.getD 0 ∧ lo.getD 0 ≤ hi.getD len ∧ hi.getD len ≤ cap ∧
      (match mx with
        | none => K (.sl o ver e (off + (lo.getD 0).toNat) ((hi.getD len).toNat - (lo.getD 0).toNat) (some (cap - (lo.getD 0).toNat)))
        | some m => (m = lo.getD 0 ∧ hi = some m ∧ K .esl) ∨ (hi.isSome = true ∧ hi.getD len ≤ m ∧ m ≤ cap ∧ K (.sl o ver e (off + (lo.getD 0).toNat) ((hi.getD len).toNat - (lo.getD 0).toNat) (some (m.toNat - (lo.getD 0).toNat)))))
  | .nilsl => lo.getD 0 = 0 ∧ hi.getD 0 = 0 ∧ mx.getD 0 = 0 ∧ (mx = none ∨ hi = some 0) ∧ K .nilsl
  | .esl => lo.getD 0 = 0 ∧ hi.getD 0 = 0 ∧ mx.getD 0 = 0 ∧ (mx = none ∨ hi = some 0) ∧ K .esl
  | _ => False

def enterable (P : Program) (f : FuncId) : Bool :=
  match P.funcs[f]? with
  | some fn => fn.body.isSome && fn.name != "runtime.NumGoroutine"
  | none => false

/-- A call of function f with these arguments, over these objects of the caller's: what it hands back and makes of the objects meets K. -/
structure CallX (P : Program) (f : FuncId) (args : List V1) (objs : Objs) (K : SV → Objs → Prop) : Prop where
  enter : enterable P f = true
  calls : ∀ (c : Ctx) (w : World) (vals : Array Value), RelObjs c objs w → vals.size = args.length → (∀ (i : Nat) x, args[i]? = some x → ∃ u, vals[i]? = some u ∧ RelV1 c objs w x u) →
    Calls P f vals w fun e w' => ∃ v c' objs' sv, e = .returned v ∧ Ext objs.length c objs w c' objs' w' ∧ RelObjs c' objs' w' ∧ RelSV c' objs' w' sv v ∧ K sv objs'

/-- What stood in w stands in w', too, as it was. -/
structure SameOld (w w' : World) : Prop where
  size : w.heap.size ≤ w'.heap.size
  old : ∀ b, b < w.heap.size → w'.heap[b]? = w.heap[b]?

/-- A call that writes nothing of what was there. -/
structure CallP (P : Program) (f : FuncId) (args : List V1) (objs : Objs) (K : SV → Objs → Prop) : Prop where
  enter : enterable P f = true
  calls : ∀ (c : Ctx) (w : World) (vals : Array Value), RelObjs c objs w → vals.size = args.length → (∀ (i : Nat) x, args[i]? = some x → ∃ u, vals[i]? = some u ∧ RelV1 c objs w x u) →
    Calls P f vals w fun e w' => ∃ v c' objs' sv, e = .returned v ∧ SameOld w w' ∧ Ext objs.length c objs w c' objs' w' ∧ RelObjs c' objs' w' ∧ RelSV c' objs' w' sv v ∧ K sv objs'

theorem CallP.toX {P : Program} {f : FuncId} {args : List V1} {objs : Objs} {K : SV → Objs → Prop} (h : CallP P f args objs K) : CallX P f args objs K :=
  ⟨h.enter, fun c w vals h1 h2 h3 => (h.calls c w vals h1 h2 h3).mono fun _ _ ⟨v, c', objs', sv, e, _, k⟩ => ⟨v, c', objs', sv, e, k⟩⟩

def argsX (st : St) : List Operand → Option (List V1)
  | [] => some []
  | x :: r => match st.eval x, argsX st r with
    | .one v, some vs => some (v :: vs)
    | _, _ => none

def capsX (st : St) : List Operand → Option (List (Nat × Nat × Nat))
  | [] => some []
  | x :: r => match st.eval x, capsX st r with
    | .one (.c (.ptr o ver off)), some vs => some ((o, ver, off) :: vs)
    | _, _ => none

def optInt (st : St) : Option Operand → Option (Option Int)
  | none => some none
  | some x => (intOfSV (st.eval x)).map some

def builtinX (G : Gen) (b : Builtin) (ts : List TypeId) (args : List V1) (objs : Objs) (k : SV → Objs → Prop) : Prop :=
  match b, ts, args with
  | .len, t :: _, [.c x] =>
    match G.ty t with
    | some T => lenX T.kind objs x fun y => k (.one (.c y)) objs
    | none => False
  | .append, t :: t' :: _, [.c s, .c x] =>
    match G.ty t, G.ty t' with
    | some T, some T' => match T.kind, T'.kind with
      | .slice e, .slice _ => match G.ty e with
        | some E => chkP (0 < E.size) <| appendX E objs s x fun y objs' => k (.one (.c y)) objs'
        | none => False
      | _, _ => False
    | _, _ => False
  | .copy, t :: t' :: _, [.c s, .c x] =>
    match G.ty t, G.ty t' with
    | some T, some T' => match T.kind, T'.kind with
      | .slice e, .slice _ => match G.ty e with
        | some E => chkP (0 < E.size) <| copyX E objs s x fun y objs' => k (.one (.c y)) objs'
        | none => False
      | _, _ => False
    | _, _ => False
  | .clear, t :: _, [.c x] =>
    match G.ty t with
    | some T => match T.kind with
      | .slice e => match G.ty e with
        | some E => chkP (0 < E.size) <| clearX E objs x fun objs' => k (.tup []) objs'
        | none => False
      | _ => False
    | none => False
  | .min, _, [.c (.d (.v (.int .i64 a))), .c (.d (.v (.int .i64 b)))] => k (.one (.c (vI (if b < a then b else a)))) objs
  | .max, _, [.c (.d (.v (.int .i64 a))), .c (.d (.v (.int .i64 b)))] => k (.one (.c (vI (if b > a then b else a)))) objs
  | _, _, _ => False

def callOpX (G : Gen) (cl : Call) (st : St) (k : SV → Objs → Prop) : Prop :=
  match argsX st cl.args.toList with
  | some args =>
    match cl.callee with
    | .builtin b => builtinX G b cl.argTypes.toList args st.objs k
    | .value f =>
      match st.eval f with
      | .one (.c (.fn f caps)) => CallX G.P f (args ++ caps.map fun (o, ver, off) => .c (.ptr o ver off)) st.objs k
      | _ => False
    | .invoke _ _ => False
  | none => False

def isBoolX (G : Gen) (t : TypeId) : Bool :=
  match G.ty t with
  | some T => match T.kind with
    | .bool => true
    | _ => false
  | none => false

def isSliceX (G : Gen) (t : TypeId) : Bool :=
  match G.ty t with
  | some T => match T.kind with
    | .slice _ => true
    | _ => false
  | none => false

/-- Where a field lies, and its type. -/
def fieldAt (G : Gen) (t : TypeId) (f : Nat) : Option (Nat × TyI) :=
  match G.P.underlying t with
  | some (.struct fields) => match fields[f]? with
    | some fd => match G.ty fd.type with
      | some T => some (fd.offset, T)
      | none => none
    | none => none
  | _ => none

def opX (G : Gen) (o : Oper) (st : St) (k : SV → Objs → Prop) : Prop :=
  match o.op with
  | .move x => k (st.eval x) st.objs
  | .assign x => k (st.eval x) st.objs
  | .pick c a b =>
    match st.eval c with
    | .one (.c (.d (.v (.bool t)))) => Br t (k (st.eval a) st.objs) (k (st.eval b) st.objs)
    | _ => False
  | .nilCheck x =>
    match st.eval x with
    | .one (.c (.ptr o ver off)) => chkP (alive st.objs o ver) <| k (.one (.c (.ptr o ver off))) st.objs
    | _ => False
  | .alloc t =>
    match G.ty t with
    | some T => k (.one (.c (.ptr st.objs.length 0 0))) (st.objs ++ [(0, .box T.zero)])
    | none => False
  | .box _ x =>
    match (st.eval x).cells with
    | some cs => k (.one (.c (.ptr st.objs.length 0 0))) (st.objs ++ [(0, .box cs)])
    | none => False
  | .build t parts =>
    match G.ty t, partsX st parts.toList with
    | some T, some ps => match T.kind with
      | .struct fs => match fillX fs T.zero ps with
        | some cs => k (.one (.agg cs)) st.objs
        | none => False
      | .array _ e => match G.ty e, parts.toList with
        | some _, [] => k (.one (.agg T.zero)) st.objs
        | _, _ => False
      | _ => False
    | _, _ => False
  | .buildSlice t len parts =>
    match G.ty t, partsX st parts.toList with
    | some T, some ps => match T.kind with
      | .slice e => match G.ty e with
        | some E => match dcsOf E.zero with
          | some z => match buildSliceX E.size (List.replicate len z) ps with
            | some xs => chkP (0 < E.size) <| chkP (len * E.size ≤ 1000000) <| k (.one (.c (.sl st.objs.length 0 E.size 0 len (some len)))) (st.objs ++ [(0, .arr E.size xs)])
            | none => OwnQ
              (match ownPart ps with
              | some (pre, (o', ver', e2, len'), post) => match objAt st.objs o' ver' with
                | some (.arr e3 ys) => chkP (len = 1 ∧ e3 = e2 ∧ pre.length + (post.length + 1) = E.size ∧ E.size ≤ 1000000) <| len' ≤ ys.length ∧
                    k (.one (.c (.sl st.objs.length 1 E.size 0 1 (some 1)))) ((st.objs.set o' (ver', .dead)) ++ [(1, .grid E.size [pre.map GC.d ++ GC.row e2 (ys.take len') :: post.map GC.d])])
                | _ => False
              | none => False)
              (freezePsOK st.objs ps ∧ (match freezePs st.objs ps with
              | some (ps', objs') => match buildSliceX E.size (List.replicate len z) ps' with
                | some xs => chkP (0 < E.size) <| chkP (len * E.size ≤ 1000000) <| k (.one (.c (.sl objs'.length 0 E.size 0 len (some len)))) (objs' ++ [(0, .arr E.size xs)])
                | none => False
              | none => False))
          | none => False
        | none => False
      | _ => False
    | _, _ => False
  | .makeSlice t l cp =>
    match G.ty t, intOfSV (st.eval l), intOfSV (st.eval cp) with
    | some T, some l, some cp => match T.kind with
      | .slice e => match G.ty e with
        | some E => match dcsOf E.zero with
          | some z => chkP (0 < E.size) <| 0 ≤ l ∧ l ≤ cp ∧ cp * E.bytes ≤ 2 ^ 46 ∧ cp ≤ 2 ^ 46 ∧ (match E.kind with
            | .slice _ => k (.one (.c (.sl st.objs.length 0 E.size 0 l.toNat (some cp.toNat)))) (st.objs ++ [(0, .grid E.size (List.replicate cp.toNat (z.map GC.d)))]) ∨
                k (.one (.c (.sl st.objs.length 0 E.size 0 l.toNat (some cp.toNat)))) (st.objs ++ [(0, .arr E.size (List.replicate cp.toNat z))])
            | _ => k (.one (.c (.sl st.objs.length 0 E.size 0 l.toNat (some cp.toNat)))) (st.objs ++ [(0, .arr E.size (List.replicate cp.toNat z))]))
          | none => False
        | none => False
      | _ => False
    | _, _, _ => False
  | .load t a =>
    match G.ty t, st.eval a with
    | some T, .one (.c x) => loadX T st.objs x fun v => k (.one v) st.objs
    | _, _ => False
  | .store t a x =>
    match G.ty t, st.eval a, (st.eval x).cells with
    | some T, .one (.c p), some cs => storeX T st.objs p cs fun objs' => k .un objs'
    | _, _, _ => False
  | .binOp op t x y _ =>
    match st.eval x, st.eval y with
    | .one (.c a), .one (.c .nilsl) => chkP (isSliceX G t = true) <| nilX st.objs op a fun v => k (.one (.c v)) st.objs
    | .one (.c a), .one (.c b) => binX (isBoolX G t) op a b fun v => k (.one (.c v)) st.objs
    | _, _ => False
  | .unOp op _ x =>
    match st.eval x with
    | .one (.c a) => unX op a fun v => k (.one (.c v)) st.objs
    | _ => False
  | .convert src dst x =>
    match G.ty src, G.ty dst, st.eval x with
    | some _, some T, .one (.c (.d (.v (.int _ n)))) => match T.kind with
      | .int kd => k (.one (.c (.d (.v (.int kd (kd.wrap n)))))) st.objs
      | _ => False
    | _, _, _ => False
  | .fieldAddr t x f =>
    match G.ty t, st.eval x with
    | some T, .one (.c p) => fieldX T st.objs p f fun v => k (.one (.c v)) st.objs
    | _, _ => False
  | .indexAddr t x i =>
    match G.ty t, st.eval x, st.eval i with
    | some T, .one (.c p), .one (.c i) => match T.kind with
      | .slice e => match G.ty e with
        | some E => chkP (0 < E.size) <| indexX T E.size st.objs p i fun v => k (.one (.c v)) st.objs
        | none => False
      | .array _ e => match G.ty e with
        | some E => indexX T E.size st.objs p i fun v => k (.one (.c v)) st.objs
        | none => False
      | _ => False
    | _, _, _ => False
  | .field t x f =>
    match st.eval x, fieldAt G t f with
    | .one (.agg cs), some (off, T) => takeX T cs off fun v => k (.one v) st.objs
    | _, _ => False
  | .index t x i =>
    match G.ty t, st.eval x, st.eval i with
    | some T, .one (.agg cs), .one (.c (.d (.v (.int .i64 n)))) => match T.kind with
      | .array len e => match G.ty e with
        | some E => match E.kind with
          | .int _ => chkP (E.size = 1) <| 0 ≤ n ∧ n < len ∧ fNat n.toNat fun j => (match cs[j]? with
            | some y => k (.one (.c y)) st.objs
            | none => False)
          | _ => False
        | none => False
      | _ => False
    | _, _, _ => False
  | .slice t x lo hi mx =>
    match G.ty t, st.eval x, optInt st lo, optInt st hi, optInt st mx with
    | some T, .one (.c x), some lo, some hi, some mx => match T.kind with
      | .slice e => match G.ty e with
        | some E => chkP (0 < E.size) <| sliceX E.size st.objs x lo hi mx fun v => k (.one (.c v)) st.objs
        | none => False
      | .str => strSliceX x lo hi mx fun v => k (.one (.c v)) st.objs
      | .array n e => match G.ty e with
        | some E => sliceArrX E.size n st.objs x lo hi mx fun v => k (.one (.c v)) st.objs
        | none => False
      | _ => False
    | _, _, _, _, _ => False
  | .extract t i =>
    match st.eval t with
    | .tup vs => match vs[i]? with
      | some v => k (.one v) st.objs
      | none => False
    | _ => False
  | .makeMap t none =>
    match mapTy G.ty t with
    | some (n, _) => k (.one (.c (.mp st.objs.length 0))) (st.objs ++ [(0, .map n [])])
    | none => False
  | .lookup t x ix ok =>
    match mapTy G.ty t, st.eval x, st.eval ix with
    | some (n, E), .one (.c x), .one (.agg ix) => lookupX n E st.objs x ix ok fun v => k v st.objs
    | _, _, _ => False
  | .mapUpdate t x ix v =>
    match mapTy G.ty t, st.eval x, st.eval ix, st.eval v with
    | some (n, _), .one (.c x), .one (.agg ix), .one v => updX n st.objs x ix v fun objs' => k .un objs'
    | _, _, _, _ => False
  | .makeFunc (.func f) fst caps =>
    match capsX st caps.toList with
    | some cs => chkP (fst.size = 0) <| k (.one (.c (.fn f cs))) st.objs
    | none => False
  | .call cl => callOpX G cl st k
  | _ => False

def boolOfSV : SV → Option Bool
  | .one (.c (.d (.v (.bool b)))) => some b
  | _ => none

/-- The value of an operation that did not come up. -/
def isUnd : SV → Bool
  | .tup [] => true
  | _ => false

def dstOK (d : Option Tmp) (n : Nat) : Bool :=
  match d with
  | some d => Nat.blt d n
  | none => true

def putE (d : Option Tmp) (v : SV) (env : List (Nat × SV)) : List (Nat × SV) :=
  match d with
  | some d => (d, v) :: env
  | none => env

/-- What an operation hands on, laid open. -/
def handX (o : Oper) (env : List (Nat × SV)) (n : Nat) (v : SV) (objs : Objs) (K : St → Prop) : Prop :=
  fSV v fun v => fObjs objs fun objs =>
    match o.dst with
    | some d => K ⟨(d, v) :: env, objs, n⟩
    | none => K ⟨env, objs, n⟩

theorem handX_eq (o : Oper) (env : List (Nat × SV)) (n : Nat) (v : SV) (objs : Objs) (K : St → Prop) : handX o env n v objs K = K ⟨putE o.dst v env, objs, n⟩ := by
  unfold handX; rw [fSV_eq, fObjs_eq]; unfold putE; split <;> rfl

/-- Operations, one after the other. -/
noncomputable def opsX (G : Gen) (all : List Oper) (l : List Oper) : St → (St → Prop) → Prop :=
  List.rec (motive := fun _ => St → (St → Prop) → Prop) (fun st k => k st)
    (fun o _ ih st k => match st with
      | ⟨env, objs, n⟩ => match dstOK o.dst n with
        | false => False
        | true =>
          match o.guard with
          | none => opX G o ⟨env, objs, n⟩ fun v objs => handX o env n v objs fun st => ih st k
          | some (j, want) =>
            match (all[j]?).bind (·.dst) with
            | some d =>
              match boolOfSV (if d < n then getE env d else .un) with
              | some b => Gd b want (opX G o ⟨(d, .one (.c (vB want))) :: env, objs, n⟩ fun v objs => handX o ((d, .one (.c (vB want))) :: env) n v objs fun st => ih st k)
                  (ih ⟨putE o.dst (.tup []) ((d, .one (.c (vB (!want)))) :: env), objs, n⟩ k)
              | none => match isUnd (if d < n then getE env d else .un) with
                | true => ih ⟨putE o.dst (.tup []) env, objs, n⟩ k
                | false => False
            | none => False) l

theorem opsX_cons {G : Gen} {all : List Oper} {o : Oper} {r : List Oper} {env : List (Nat × SV)} {objs : Objs} {n : Nat} {k : St → Prop} : opsX G all (o :: r) ⟨env, objs, n⟩ k = (match dstOK o.dst n with
    | false => False
    | true =>
      match o.guard with
      | none => opX G o ⟨env, objs, n⟩ fun v objs => handX o env n v objs fun st => opsX G all r st k
      | some (j, want) =>
        match (all[j]?).bind (·.dst) with
        | some d =>
          match boolOfSV (if d < n then getE env d else .un) with
          | some b => Gd b want (opX G o ⟨(d, .one (.c (vB want))) :: env, objs, n⟩ fun v objs => handX o ((d, .one (.c (vB want))) :: env) n v objs fun st => opsX G all r st k)
              (opsX G all r ⟨putE o.dst (.tup []) ((d, .one (.c (vB (!want)))) :: env), objs, n⟩ k)
          | none => match isUnd (if d < n then getE env d else .un) with
            | true => opsX G all r ⟨putE o.dst (.tup []) env, objs, n⟩ k
            | false => False
        | none => False) := rfl

/-- An operation that only looks: whenever it comes up, it yields the same. -/
def quietOp (o : Oper) : Bool :=
  match o.op with
  | .move _ => true
  | .assign _ => true
  | .pick _ _ _ => true
  | .nilCheck _ => true
  | .load _ _ => true
  | .binOp _ _ _ _ _ => true
  | .unOp _ _ _ => true
  | .fieldAddr _ _ _ => true
  | .indexAddr _ _ _ => true
  | .slice _ _ _ _ _ => true
  | .makeFunc _ _ _ => true
  | .call cl => match cl.callee with
    | .builtin .len => true
    | _ => false
  | _ => false

/-- A guard's two ways. -/
def grdX (all : List Oper) (o : Oper) (env : List (Nat × SV)) (n : Nat) (run skip : List (Nat × SV) → Prop) : Prop :=
  match o.guard with
  | none => run env
  | some (j, want) =>
    match (all[j]?).bind (·.dst) with
    | some d =>
      match boolOfSV (if d < n then getE env d else .un) with
      | some b => Gd b want (run ((d, .one (.c (vB want))) :: env)) (skip ((d, .one (.c (vB (!want)))) :: env))
      | none => match isUnd (if d < n then getE env d else .un) with
        | true => skip env
        | false => False
    | none => False

def callPX (G : Gen) (o : Oper) (st : St) (k : SV → Objs → Prop) : Prop :=
  match o.op with
  | .call cl =>
    match argsX st cl.args.toList with
    | some args =>
      match cl.callee with
      | .value f =>
        match st.eval f with
        | .one (.c (.fn f caps)) => CallP G.P f (args ++ caps.map fun (o, ver, off) => .c (.ptr o ver off)) st.objs k
        | _ => False
      | _ => False
    | none => False
  | _ => False

/-- In which orders a region's operations are looked at. -/
inductive Plan where
  | done
  | take (i : Nat) (p : Plan)
  | one (i : Nat) (p : Plan)
  | two (i : Nat) (p : Plan) (j : Nat) (q : Plan)
  | three (i : Nat) (p : Plan) (j : Nat) (q : Plan) (l : Nat) (r : Plan)

def getO : List Oper → Nat → Option Oper
  | [], _ => none
  | o :: _, 0 => some o
  | _ :: r, i + 1 => getO r i

theorem getO_eq : ∀ (l : List Oper) (i : Nat), getO l i = l[i]?
  | [], i => by simp [getO]
  | o :: r, 0 => rfl
  | o :: r, i + 1 => by simp [getO, getO_eq r i]

def inL (i : Nat) : List Nat → Bool
  | [] => false
  | j :: r => match Nat.beq i j with
    | true => true
    | false => inL i r

def waitsL (listed : List Nat) : List Edge → Bool
  | [] => true
  | e :: r => match Region.binds .any e with
    | true => match inL e.on listed with
      | true => waitsL listed r
      | false => false
    | false => waitsL listed r

def readyL (listed : List Nat) : List Oper → Nat → List Nat
  | [], _ => []
  | o :: r, i => match inL i listed with
    | true => readyL listed r (i + 1)
    | false => match waitsL listed o.after.toList with
      | true => i :: readyL listed r (i + 1)
      | false => readyL listed r (i + 1)

def pickL (ops : List Oper) : List Nat → Option Nat
  | [] => none
  | i :: r => match getO ops i with
    | some o => match quietOp o with
      | true => some i
      | false => pickL ops r
    | none => pickL ops r

def mkPlanL (ops : List Oper) : Nat → List Nat → Plan
  | 0, _ => .done
  | fuel + 1, listed =>
    match readyL listed ops 0 with
    | [] => .done
    | i0 :: is => match pickL ops (i0 :: is) with
      | some i => .take i (mkPlanL ops fuel (i :: listed))
      | none => match is with
        | [] => .one i0 (mkPlanL ops fuel (i0 :: listed))
        | j :: _ => .two i0 (mkPlanL ops fuel (i0 :: listed)) j (mkPlanL ops fuel (j :: listed))

def mkPlan (ops : Array Oper) : Plan := mkPlanL ops.toList ops.toList.length []

/-- A plan leaves no order out. -/
def planOK (ops : Array Oper) : Nat → Array Bool → Plan → Bool
  | _, listed, .done => (Region.ready .any ops listed).isEmpty
  | 0, _, _ => false
  | fuel + 1, listed, .take i p => Region.free .any ops listed i && (Region.ready .any ops listed).contains i && planOK ops fuel (listed.setIfInBounds i true) p
  | fuel + 1, listed, .one i p => (Region.ready .any ops listed == [i]) && planOK ops fuel (listed.setIfInBounds i true) p
  | fuel + 1, listed, .two i p j q => (Region.ready .any ops listed == [i, j]) && planOK ops fuel (listed.setIfInBounds i true) p && planOK ops fuel (listed.setIfInBounds j true) q
  | fuel + 1, listed, .three i p j q l r => (Region.ready .any ops listed == [i, j, l]) && planOK ops fuel (listed.setIfInBounds i true) p && planOK ops fuel (listed.setIfInBounds j true) q && planOK ops fuel (listed.setIfInBounds l true) r

/-- Operations in the orders of a plan. -/
def runP (G : Gen) (ops : List Oper) : Plan → St → (St → Prop) → Prop
  | .done, st, k => k st
  | .take i p, ⟨env, objs, n⟩, k => match getO ops i with
    | some o => chkP (dstOK o.dst n = true ∧ quietOp o = true) <|
        grdX ops o env n (fun env => opX G o ⟨env, objs, n⟩ fun v _ => handX o env n v objs fun st => runP G ops p st k) (fun env => runP G ops p ⟨putE o.dst (.tup []) env, objs, n⟩ k)
    | none => False
  | .one i p, ⟨env, objs, n⟩, k => match getO ops i with
    | some o => chkP (dstOK o.dst n = true) <|
        grdX ops o env n (fun env => callPX G o ⟨env, objs, n⟩ fun v objs => handX o env n v objs fun st => runP G ops p st k) (fun env => runP G ops p ⟨putE o.dst (.tup []) env, objs, n⟩ k)
    | none => False
  | .two i p j q, ⟨env, objs, n⟩, k =>
    (match getO ops i with
    | some o => chkP (dstOK o.dst n = true) <|
        grdX ops o env n (fun env => callPX G o ⟨env, objs, n⟩ fun v objs => handX o env n v objs fun st => runP G ops p st k) (fun env => runP G ops p ⟨putE o.dst (.tup []) env, objs, n⟩ k)
    | none => False) ∧
    (match getO ops j with
    | some o => chkP (dstOK o.dst n = true) <|
        grdX ops o env n (fun env => callPX G o ⟨env, objs, n⟩ fun v objs => handX o env n v objs fun st => runP G ops q st k) (fun env => runP G ops q ⟨putE o.dst (.tup []) env, objs, n⟩ k)
    | none => False)
  | .three _ _ _ _ _ _, _, _ => False

/-- An operation whose value asks no memory. -/
def pureF (o : Oper) : Bool :=
  match o.op with
  | .move _ => true
  | .assign _ => true
  | .pick _ _ _ => true
  | .nilCheck _ => true
  | .binOp _ _ _ _ _ => true
  | .unOp _ _ _ => true
  | .build _ _ => true
  | .field _ _ _ => true
  | .extract _ _ => true
  | .fieldAddr _ _ _ => true
  | .indexAddr _ _ _ => true
  | _ => false

/-- An operation that asks no memory. -/
def pureOp (o : Oper) : Bool := pureF o

def pickW (ops : List Oper) : List Nat → Option Nat
  | [] => none
  | i :: r => match getO ops i with
    | some o => match pureOp o with
      | true => some i
      | false => pickW ops r
    | none => pickW ops r

def mkPlanW (ops : List Oper) : Nat → List Nat → Plan
  | 0, _ => .done
  | fuel + 1, listed =>
    match readyL listed ops 0 with
    | [] => .done
    | i0 :: is => match pickW ops (i0 :: is) with
      | some i => .take i (mkPlanW ops fuel (i :: listed))
      | none => match is with
        | [] => .one i0 (mkPlanW ops fuel (i0 :: listed))
        | [j] => .two i0 (mkPlanW ops fuel (i0 :: listed)) j (mkPlanW ops fuel (j :: listed))
        | j :: l :: _ => .three i0 (mkPlanW ops fuel (i0 :: listed)) j (mkPlanW ops fuel (j :: listed)) l (mkPlanW ops fuel (l :: listed))

def planW (ops : Array Oper) : Plan := mkPlanW ops.toList ops.toList.length []

/-- Two things to be shown, each laid open anew. -/
structure Both (p q : Prop) : Prop where
  fst : p
  snd : q

/-- Operations in the orders of a plan, whichever they are. -/
def runW (G : Gen) (ops : List Oper) : Plan → St → (St → Prop) → Prop
  | .done, st, k => k st
  | .take i p, ⟨env, objs, n⟩, k => match getO ops i with
    | some o => chkP (dstOK o.dst n = true ∧ pureOp o = true) <|
        grdX ops o env n (fun env => opX G o ⟨env, objs, n⟩ fun v _ => handX o env n v objs fun st => runW G ops p st k) (fun env => runW G ops p ⟨putE o.dst (.tup []) env, objs, n⟩ k)
    | none => False
  | .one i p, ⟨env, objs, n⟩, k => match getO ops i with
    | some o => chkP (dstOK o.dst n = true) <|
        grdX ops o env n (fun env => opX G o ⟨env, objs, n⟩ fun v objs => handX o env n v objs fun st => runW G ops p st k) (fun env => runW G ops p ⟨putE o.dst (.tup []) env, objs, n⟩ k)
    | none => False
  | .two i p j q, ⟨env, objs, n⟩, k => Both
    (match getO ops i with
    | some o => chkP (dstOK o.dst n = true) <|
        grdX ops o env n (fun env => opX G o ⟨env, objs, n⟩ fun v objs => handX o env n v objs fun st => runW G ops p st k) (fun env => runW G ops p ⟨putE o.dst (.tup []) env, objs, n⟩ k)
    | none => False)
    (match getO ops j with
    | some o => chkP (dstOK o.dst n = true) <|
        grdX ops o env n (fun env => opX G o ⟨env, objs, n⟩ fun v objs => handX o env n v objs fun st => runW G ops q st k) (fun env => runW G ops q ⟨putE o.dst (.tup []) env, objs, n⟩ k)
    | none => False)
  | .three i p j q l r, ⟨env, objs, n⟩, k => Both
    (match getO ops i with
    | some o => chkP (dstOK o.dst n = true) <|
        grdX ops o env n (fun env => opX G o ⟨env, objs, n⟩ fun v objs => handX o env n v objs fun st => runW G ops p st k) (fun env => runW G ops p ⟨putE o.dst (.tup []) env, objs, n⟩ k)
    | none => False) (Both
    (match getO ops j with
    | some o => chkP (dstOK o.dst n = true) <|
        grdX ops o env n (fun env => opX G o ⟨env, objs, n⟩ fun v objs => handX o env n v objs fun st => runW G ops q st k) (fun env => runW G ops q ⟨putE o.dst (.tup []) env, objs, n⟩ k)
    | none => False)
    (match getO ops l with
    | some o => chkP (dstOK o.dst n = true) <|
        grdX ops o env n (fun env => opX G o ⟨env, objs, n⟩ fun v objs => handX o env n v objs fun st => runW G ops r st k) (fun env => runW G ops r ⟨putE o.dst (.tup []) env, objs, n⟩ k)
    | none => False))

/-- An operation that lays something new or adds to it. -/
def loudOp (o : Oper) : Bool :=
  match o.op with
  | .alloc _ => true
  | .box _ _ => true
  | .buildSlice _ _ _ => true
  | .call cl => match cl.callee with
    | .builtin _ => true
    | _ => false
  | _ => false

/-- What a plan of quiet operations and calls does not do. -/
def loudAny (o : Oper) : Bool :=
  match quietOp o with
  | true => false
  | false => match o.op with
    | .call cl => match cl.callee with
      | .value _ => false
      | _ => true
    | _ => true

def hasLoud : List Oper → Bool
  | [] => false
  | o :: r => match loudAny o with
    | true => true
    | false => hasLoud r

def fzOB : OB → OB
  | .dead => .dead
  | .fro r b => .fro r b
  | b => .fro false b

/-- The first n objects, frozen. -/
def fzN : Nat → Objs → Objs
  | 0, l => l
  | _ + 1, [] => []
  | n + 1, (v, b) :: r => (v, fzOB b) :: fzN n r

def deadB : OB → Bool
  | .dead => true
  | _ => false

/-- The first n objects are there as before. -/
def samePre : Nat → Objs → Objs → Bool
  | 0, _, _ => true
  | n + 1, (v, _) :: r, (v', b') :: r' => match Nat.beq v v' with
    | true => match deadB b' with
      | true => false
      | false => samePre n r r'
    | false => false
  | _, _, _ => false

/-- Which of a region's operations stores first. -/
def tailAt : List Oper → Nat
  | [] => 0
  | o :: r => match o.op with
    | .store _ _ _ => 0
    | _ => tailAt r + 1

def hasEdge (i : Nat) : List Edge → Bool
  | [] => false
  | e :: r => match Region.binds .any e with
    | true => match Nat.beq e.on i with
      | true => true
      | false => hasEdge i r
    | false => hasEdge i r

/-- All operations from number t0 on wait for number i. -/
def waitsAll (t0 i : Nat) : List Oper → Nat → Bool
  | [], _ => true
  | o :: r, j => match Nat.blt j t0 with
    | true => waitsAll t0 i r (j + 1)
    | false => match hasEdge i o.after.toList with
      | true => waitsAll t0 i r (j + 1)
      | false => false

def pureAt (ops : List Oper) (i : Nat) : Bool :=
  match getO ops i with
  | some o => pureF o
  | none => false

def allTail (ops : List Oper) (t0 : Nat) : Nat → Bool
  | 0 => true
  | i + 1 => match pureAt ops i with
    | true => allTail ops t0 i
    | false => match waitsAll t0 i ops 0 with
      | true => allTail ops t0 i
      | false => false

def pickF (early : Bool) (t0 : Nat) (ops : List Oper) : List Nat → Option Nat
  | [] => none
  | i :: r => match getO ops i with
    | some o => match Nat.blt i t0 with
      | false => pickF early t0 ops r
      | true => match pureF o with
        | true => some i
        | false => match early with
          | true => match quietOp o with
            | true => some i
            | false => pickF early t0 ops r
          | false => pickF early t0 ops r
    | none => pickF early t0 ops r

def mkPlanF (t0 : Nat) (ops : List Oper) : Nat → Bool → List Nat → Plan
  | 0, _, _ => .done
  | fuel + 1, early, listed =>
    match readyL listed ops 0 with
    | [] => .done
    | i0 :: is => match pickF early t0 ops (i0 :: is) with
      | some i => .take i (mkPlanF t0 ops fuel early (i :: listed))
      | none => match is with
        | [] => .one i0 (mkPlanF t0 ops fuel false (i0 :: listed))
        | [j] => .two i0 (mkPlanF t0 ops fuel false (i0 :: listed)) j (mkPlanF t0 ops fuel false (j :: listed))
        | j :: l :: _ => .three i0 (mkPlanF t0 ops fuel false (i0 :: listed)) j (mkPlanF t0 ops fuel false (j :: listed)) l (mkPlanF t0 ops fuel false (l :: listed))

def planF (ops : Array Oper) : Plan := mkPlanF (tailAt ops.toList) ops.toList ops.toList.length true []

def loudF (G : Gen) (o : Oper) (n0 : Nat) (env : List (Nat × SV)) (objs : Objs) (n : Nat) (k : SV → Objs → Prop) : Prop :=
  match loudOp o with
  | true => Both (fObjs (fzN n0 objs) fun fo => opX G o ⟨env, fo, n⟩ (fun _ _ => True)) (opX G o ⟨env, objs, n⟩ fun v objs' => chkP (samePre n0 objs objs' = true) <| k v objs')
  | false => callPX G o ⟨env, objs, n⟩ fun v objs' => chkP (samePre n0 objs objs' = true) <| k v objs'

/-- One operation that is not taken first. -/
def stepF (G : Gen) (ops : List Oper) (n0 t0 : Nat) (tl : Bool) (i : Nat) (env : List (Nat × SV)) (objs : Objs) (n : Nat) (next : Bool → St → Prop) : Prop :=
  match getO ops i with
  | some o => chkP (dstOK o.dst n = true) <| match Nat.blt i t0 with
    | true => match tl with
      | true => False
      | false => grdX ops o env n (fun env => loudF G o n0 env objs n fun v objs => handX o env n v objs fun st => next false st) (fun env => next false ⟨putE o.dst (.tup []) env, objs, n⟩)
    | false => grdX ops o env n (fun env => opX G o ⟨env, objs, n⟩ fun v objs => handX o env n v objs fun st => next true st) (fun env => next true ⟨putE o.dst (.tup []) env, objs, n⟩)
  | none => False

/-- Operations in the orders of a plan: what is of the region's own may be added to; those from number t0 on come last. -/
def runF (G : Gen) (ops : List Oper) (n0 t0 : Nat) : Plan → Bool → Bool → St → (St → Prop) → Prop
  | .done, _, _, st, k => k st
  | .take i p, early, tl, ⟨env, objs, n⟩, k => match getO ops i with
    | some o => chkP (dstOK o.dst n = true ∧ (pureF o || (early && quietOp o)) = true ∧ tl = false ∧ Nat.blt i t0 = true) <|
        grdX ops o env n (fun env => opX G o ⟨env, objs, n⟩ fun v _ => handX o env n v objs fun st => runF G ops n0 t0 p early tl st k) (fun env => runF G ops n0 t0 p early tl ⟨putE o.dst (.tup []) env, objs, n⟩ k)
    | none => False
  | .one i p, _, tl, ⟨env, objs, n⟩, k => stepF G ops n0 t0 tl i env objs n fun tl st => runF G ops n0 t0 p false tl st k
  | .two i p j q, _, tl, ⟨env, objs, n⟩, k => Both
      (stepF G ops n0 t0 tl i env objs n fun tl st => runF G ops n0 t0 p false tl st k)
      (stepF G ops n0 t0 tl j env objs n fun tl st => runF G ops n0 t0 q false tl st k)
  | .three i p j q l r, _, tl, ⟨env, objs, n⟩, k => Both
      (stepF G ops n0 t0 tl i env objs n fun tl st => runF G ops n0 t0 p false tl st k) (Both
      (stepF G ops n0 t0 tl j env objs n fun tl st => runF G ops n0 t0 q false tl st k)
      (stepF G ops n0 t0 tl l env objs n fun tl st => runF G ops n0 t0 r false tl st k))

structure Rel (c : Ctx) (st : St) (a : Act) (w : World) : Prop where
  objs : RelObjs c st.objs w
  env : ∀ t, t < st.n → ∃ v, a.tmps[t]? = some v ∧ RelSV c st.objs w (getE st.env t) v
  size : a.tmps.size = st.n
  defers : a.defers = []

/-- What the state st says of a world, S says, too (with other blocks for its objects, if need be). -/
def Weak (n0 : Nat) (st S : St) : Prop :=
  ∀ (c : Ctx) (a : Act) (w : World), Rel c st a w → ∃ c', Ext n0 c st.objs w c' S.objs w ∧ Rel c' S a w

theorem Weak.refl (n : Nat) (st : St) : Weak n st st := fun c _ w hr => ⟨c, Ext.refl _ _ _ _, hr⟩

/-- A region that draws its order. Whatever the order, what is known behind it may be said by one state. -/
structure DrawR (G : Gen) (ops : Array Oper) (st : St) (k : St → Prop) : Prop where
  sel : Region.noSelect ops = true
  plan : ∃ (k' : St → Prop) (p : Plan), (∀ st', k' st' → ∃ S, Weak st.objs.length st' S ∧ k S) ∧ planOK ops ops.size (Array.replicate ops.size false) p = true ∧
    (runP G ops.toList p st k' ∨ runW G ops.toList p st k' ∨ (allTail ops.toList (tailAt ops.toList) (tailAt ops.toList) = true ∧ runF G ops.toList st.objs.length (tailAt ops.toList) p true false st k'))

theorem draw_mk {G : Gen} {ops : Array Oper} {st : St} {k : St → Prop} (h : (Region.noSelect ops && planOK ops ops.size (Array.replicate ops.size false) (mkPlan ops)) = true) (g : runP G ops.toList (mkPlan ops) st k) : DrawR G ops st k := by
  rw [Bool.and_eq_true] at h
  exact ⟨h.1, k, _, fun st' h => ⟨st', Weak.refl _ _, h⟩, h.2, .inl g⟩

theorem draw_mkW {G : Gen} {ops : Array Oper} {st : St} {k : St → Prop} (h : (Region.noSelect ops && planOK ops ops.size (Array.replicate ops.size false) (planW ops)) = true) (g : runW G ops.toList (planW ops) st k) : DrawR G ops st k := by
  rw [Bool.and_eq_true] at h
  exact ⟨h.1, k, _, fun st' h => ⟨st', Weak.refl _ _, h⟩, h.2, .inr (.inl g)⟩

theorem draw_mkF {G : Gen} {ops : Array Oper} {st : St} {k : St → Prop} (_hl : hasLoud ops.toList = true) (h : (Region.noSelect ops && (planOK ops ops.size (Array.replicate ops.size false) (planF ops) && allTail ops.toList (tailAt ops.toList) (tailAt ops.toList))) = true)
    (g : runF G ops.toList st.objs.length (tailAt ops.toList) (planF ops) true false st k) : DrawR G ops st k := by
  rw [Bool.and_eq_true, Bool.and_eq_true] at h
  exact ⟨h.1, k, _, fun st' h => ⟨st', Weak.refl _ _, h⟩, h.2.1, .inr (.inr ⟨h.2.2, g⟩)⟩

/-- The state behind a region, so far as it is known. -/
structure Joins (n : Nat) (st S : St) : Prop where
  weak : Weak n st S

inductive AExit where
  | normal
  | exit (id : Nat)
  | ret

/-- From number n1 to number n0 each object has a later version. -/
def verUp : Nat → Nat → Objs → Objs → Bool
  | _, 0, _, _ => true
  | 0, n0 + 1, (v, _) :: r, (v', _) :: r' => match Nat.blt v v' with
    | true => verUp 0 n0 r r'
    | false => false
  | n1 + 1, n0 + 1, _ :: r, _ :: r' => verUp n1 n0 r r'
  | _, _ + 1, _, _ => false

/-- Rounds with a measure, in which the objects from number n1 on may be told anew; behind them they have later versions. -/
def loopV (n0 : Nat) (run : Nat → St → (AExit → St → Prop) → Prop) (st : St) (Q : AExit → St → Prop) : Prop :=
  ∃ (n1 : Nat) (α : Type) (m : α → Nat) (I : α → Prop) (S : α → St) (x0 : α), n1 ≤ n0 ∧ I x0 ∧ Weak n1 st (S x0) ∧
      ∀ x, I x → run n1 (S x) fun e st' => match e with
        | .normal => ∃ x', I x' ∧ m x' < m x ∧ Weak n1 st' (S x')
        | e => verUp n1 n0 st.objs st'.objs = true ∧ Q e st'

/-- So many rounds, each one told; behind them rounds with a measure. -/
def iterX (n0 : Nat) (run : Nat → St → (AExit → St → Prop) → Prop) : Nat → St → (AExit → St → Prop) → Prop
  | 0, st, Q => loopV n0 run st Q
  | n + 1, st, Q => run n0 st fun e st' => match e with
    | .normal => iterX n0 run n st' Q
    | e => Q e st'

/-- What a loop asks: rounds with a measure, or so many of them. -/
def loopX (n0 : Nat) (run : Nat → St → (AExit → St → Prop) → Prop) (st : St) (Q : AExit → St → Prop) : Prop :=
  (∃ (α : Type) (m : α → Nat) (I : α → Prop) (S : α → St) (x0 : α), I x0 ∧ Weak n0 st (S x0) ∧
      ∀ x, I x → run n0 (S x) fun e st' => match e with
        | .normal => ∃ x', I x' ∧ m x' < m x ∧ Weak n0 st' (S x')
        | e => Q e st') ∨ ∃ n, iterX n0 run n st Q

noncomputable def codeX (G : Gen) (n0 : Nat) (cd : Code) : St → (AExit → St → Prop) → Prop :=
  Code.rec (motive := fun _ => Nat → St → (AExit → St → Prop) → Prop)
    (fun _ st Q => Q .normal st)
    (fun _ ops draw _ st Q => match draw with
      | false => opsX G ops.toList ops.toList st fun st' => Q .normal st'
      | true => DrawR G ops st fun st' => Q .normal st')
    (fun _ _ iha ihb n0 st Q => iha n0 st fun e st' => match e with
      | .normal => ihb n0 st' Q
      | e => Q e st')
    (fun c _ _ iha ihb n0 st Q => match boolOfSV (st.eval c) with
      | some t => Br t (iha n0 st Q) (ihb n0 st Q)
      | none => False)
    (fun id _ ih n0 st Q => ih n0 st fun e st' => match e with
      | .exit i => if i = id then Q .normal st' else Q (.exit i) st'
      | e => Q e st')
    (fun _ ih n0 st Q => loopX n0 ih st Q)
    (fun _ _ _ _ _ _ _ _ _ => False)
    (fun id _ st Q => Q (.exit id) st)
    (fun _ _ _ _ _ => False)
    (fun _ _ st Q => Q .normal st)
    (fun _ _ _ _ => False)
    (fun _ st Q => Q .ret st)
    (fun _ _ _ _ => False)
    cd n0

theorem codeX_region {G : Gen} {n0 id : Nat} {ops : Array Oper} {draw : Bool} {st : St} {Q : AExit → St → Prop} : codeX G n0 (.region id ops draw) st Q = (match draw with
    | false => opsX G ops.toList ops.toList st fun st' => Q .normal st'
    | true => DrawR G ops st fun st' => Q .normal st') := rfl

theorem codeX_cond {G : Gen} {n0 : Nat} {c : Operand} {a b : Code} {st : St} {Q : AExit → St → Prop} : codeX G n0 (.cond c a b) st Q = (match boolOfSV (st.eval c) with
    | some t => Br t (codeX G n0 a st Q) (codeX G n0 b st Q)
    | none => False) := rfl

theorem codeX_loop {G : Gen} {n0 : Nat} {b : Code} {st : St} {Q : AExit → St → Prop} : codeX G n0 (.loop b) st Q = loopX n0 (fun n1 => codeX G n1 b) st Q := rfl

def resOneX (G : Gen) (st : St) (r : ResultVar) (K : V1 → Prop) : Prop :=
  match r with
  | .tmp t => match st.eval (.tmp t) with
    | .one v => K v
    | _ => False
  | .cell a t => match G.ty t, st.eval (.tmp a) with
    | some T, .one (.c x) => loadX T st.objs x K
    | _, _ => False

def resX (G : Gen) (st : St) : List ResultVar → (List V1 → Prop) → Prop
  | [], K => K []
  | r :: rs, K => resOneX G st r fun v => resX G st rs fun vs => K (v :: vs)

def svOf : List V1 → SV
  | [v] => .one v
  | vs => .tup vs

def envOf : Nat → List V1 → List (Nat × SV)
  | _, [] => []
  | n, v :: r => (n, .one v) :: envOf (n + 1) r

/-- A body, from these arguments and objects. -/
def bodyX (G : Gen) (fn : Func) (c : Code) (args : List V1) (objs : Objs) (K : SV → Objs → Prop) : Prop :=
  codeX G objs.length c { env := envOf 0 args, objs := objs, n := fn.ntmps } fun e st' =>
    match e with
    | .exit _ => False
    | _ => resX G st' fn.results.toList fun vs => fSV (svOf vs) fun sv => fObjs st'.objs fun objs => K sv objs

end Go.Proofs.Ytmfdkjjhdjkgpaa

namespace Go.Proofs.Ytmfdkjjhdjkgpaa
open Go Go.RowKit

theorem Rep.v_inv {w : World} {R : Nat → Prop} {x v : Value} (h : Rep w R (.v x) v) : v = x := by cases h; rfl

theorem rel_constCV (c : Ctx) (objs : Objs) (w : World) (v : Value) (h1 : v.oneCell' = true) : RelCV c objs w (constCV v) v := by
  unfold constCV
  split
  · exact rfl
  · exact Rep.v _ h1

theorem rel_constSV (c : Ctx) (objs : Objs) (w : World) (v : Value) : RelSV c objs w (constSV v) v := by
  unfold constSV
  split
  · rename_i cs
    split
    · rename_i hall
      refine ⟨cs, rfl, by simp, fun i x hi => ?_⟩
      simp only [List.getElem?_map, Option.map_eq_some_iff] at hi
      obtain ⟨u, h1, rfl⟩ := hi
      have h2 : cs[i]? = some u := by simpa using h1
      exact ⟨u, h2, rel_constCV _ _ _ _ (List.all_eq_true.1 hall u (Array.mem_toList_iff.2 (Array.mem_of_getElem? h2)))⟩
    · exact trivial
  · exact trivial
  · refine rel_constCV _ _ _ _ ?_
    unfold Value.oneCell'
    split <;> simp_all

theorem Rel.eval {c : Ctx} {st : St} {a : Act} {w : World} (hr : Rel c st a w) (x : Operand) : RelSV c st.objs w (st.eval x) (a.eval x) := by
  cases x with
  | tmp t =>
    simp only [St.eval]
    split
    · rename_i h
      obtain ⟨v, h1, h2⟩ := hr.env t h
      simp only [Act.eval, Array.getD_eq_getD_getElem?, h1, Option.getD_some]
      exact h2
    · exact trivial
  | const v => exact rel_constSV ..
  | global g => exact trivial
  | func f => exact ⟨#[], rfl, rfl, fun i o ver off h => by simp at h⟩

theorem wp_value {P : Program} {o : Oper} {a : Act} {next : Act → World → Prop} {Q : Exit → Act → World → Prop} {w w' : World} {v : Value}
    (h : (execOp a.eval o).run P w = .ok (.value v) w') (hn : next (a.put o.dst v) w') : o.wp P a w next Q := by
  unfold Oper.wp
  rw [h]
  exact hn

theorem wp_skipped {P : Program} {o : Oper} {a : Act} {next : Act → World → Prop} {Q : Exit → Act → World → Prop} {w w' : World}
    (h : (execOp a.eval o).run P w = .ok .skip w') (hn : next (a.put o.dst undef) w') : o.wp P a w next Q := by
  unfold Oper.wp
  rw [h]
  exact hn

theorem relV {c : Ctx} {objs : Objs} {w : World} (x : Value) (h1 : x.oneCell' = true) : RelCV c objs w (.d (.v x)) x := Rep.v x h1

theorem SameOld.refl (w : World) : SameOld w w := ⟨Nat.le_refl _, fun _ _ => rfl⟩

theorem SameOld.trans {a b c : World} (h : SameOld a b) (g : SameOld b c) : SameOld a c :=
  ⟨Nat.le_trans h.size g.size, fun k hk => (g.old k (Nat.lt_of_lt_of_le hk h.size)).trans (h.old k hk)⟩

theorem SameOld.cell {w w' : World} (h : SameOld w w') {p : Addr} {u : Value} (hc : w.cell? p = some u) : w'.cell? p = some u := by
  unfold World.cell? at hc ⊢
  split at hc
  · rename_i c t b hb
    rw [h.old _ (Array.getElem?_eq_some_iff.1 hb).1, hb]
    exact hc
  · cases hc

/-- What an operation does to values alone: it comes to a value that K's argument stands for. -/
theorem run_binX {P : Program} {c : Ctx} {objs : Objs} {w : World} {isB : Bool} {op : BinOp} {t : TypeId} {xo yo : Operand} {x y : CV} {u v : Value} {K : CV → Prop}
    (hB : isB = true → P.underlying t = some .bool) (h : binX isB op x y K) (hx : RelCV c objs w x u) (hy : RelCV c objs w y v) :
    ∃ z r, (∀ w', (do eqGuard op t xo yo u v; binOp op t u v : Sem Value).run P w' = .ok r w') ∧ RelCV c objs w z r ∧ K z := by
  unfold binX at h
  split at h
  · rename_i a b
    obtain rfl := Rep.v_inv hx
    obtain rfl := Rep.v_inv hy
    split at h
    · exact h.elim
    · have ht := hB rfl
      have he : ∀ w, (Op.equal t (.bool a) (.bool b)).run P w = .ok (a == b) w := fun w => run_equalIn_bool' w 9999 t a b ht
      split at h
      · exact ⟨_, _, fun _ => by simp [eqGuard, binOp, he], relV _ rfl, h⟩
      · exact ⟨_, _, fun _ => by simp [eqGuard, binOp, he], relV _ rfl, h⟩
      · exact h.elim
  · rename_i k a k' b
    obtain rfl := Rep.v_inv hx
    obtain rfl := Rep.v_inv hy
    split at h
    · obtain ⟨h0, h⟩ := h
      exact ⟨_, _, fun _ => by simp [eqGuard, binOp, Op.shift, show ¬ b < 0 by omega], relV _ rfl, h⟩
    · obtain ⟨h0, h⟩ := h
      exact ⟨_, _, fun _ => by simp [eqGuard, binOp, Op.shift, show ¬ b < 0 by omega], relV _ rfl, h⟩
    · replace h := chkP_iff.1 h; obtain ⟨rfl, h⟩ := h
      exact ⟨_, _, fun _ => by simp [eqGuard, binOp, Op.intBits], relV _ rfl, h⟩
    · replace h := chkP_iff.1 h; obtain ⟨rfl, h⟩ := h
      unfold binInt at h
      split at h
      · exact ⟨_, _, fun _ => by simp [eqGuard, binOp, Op.intArith], relV _ rfl, h⟩
      · exact ⟨_, _, fun _ => by simp [eqGuard, binOp, Op.intArith], relV _ rfl, h⟩
      · exact ⟨_, _, fun _ => by simp [eqGuard, binOp, Op.intArith], relV _ rfl, h⟩
      · obtain ⟨h0, h⟩ := h
        exact ⟨_, _, fun _ => by simp [eqGuard, binOp, Op.intDiv, h0], relV _ rfl, h⟩
      · obtain ⟨h0, h⟩ := h
        exact ⟨_, _, fun _ => by simp [eqGuard, binOp, Op.intDiv, h0], relV _ rfl, h⟩
      · exact ⟨_, _, fun _ => by simp [eqGuard, binOp, Op.intCmp], relV _ rfl, h⟩
      · exact ⟨_, _, fun _ => by simp [eqGuard, binOp, Op.intCmp], relV _ rfl, h⟩
      · exact ⟨_, _, fun _ => by simp [eqGuard, binOp, Op.intCmp], relV _ rfl, h⟩
      · exact ⟨_, _, fun _ => by simp [eqGuard, binOp, Op.intCmp], relV _ rfl, h⟩
      · exact ⟨_, _, fun _ => by simp [eqGuard, binOp, Op.intCmp], relV _ rfl, h⟩
      · exact ⟨_, _, fun _ => by simp [eqGuard, binOp, Op.intCmp], relV _ rfl, h⟩
      · exact h.elim
  · rename_i a b
    obtain rfl := Rep.v_inv hx
    obtain rfl := Rep.v_inv hy
    split at h
    · obtain ⟨h0, h⟩ := h
      have h1 : ¬ ((a.size : Int) + (b.size : Int) > IntKind.i64.max) := by
        have : IntKind.i64.max = 9223372036854775807 := by decide
        omega
      exact ⟨_, _, fun _ => by simp [eqGuard, binOp, Op.stringOp]; omega, relV _ rfl, h⟩
    · exact ⟨_, _, fun _ => by simp [eqGuard, binOp, Op.stringOp], relV _ rfl, h⟩
    · exact ⟨_, _, fun _ => by simp [eqGuard, binOp, Op.stringOp], relV _ rfl, h⟩
    · exact h.elim
  · exact h.elim

theorem run_unX {P : Program} {c : Ctx} {objs : Objs} {w : World} {op : UnOp} {x : CV} {u : Value} {K : CV → Prop}
    (h : unX op x K) (hx : RelCV c objs w x u) : ∃ z r, (∀ w', (Op.unary op u).run P w' = .ok r w') ∧ RelCV c objs w z r ∧ K z := by
  unfold unX at h
  split at h
  · obtain rfl := Rep.v_inv hx
    exact ⟨_, _, fun _ => by simp [Op.unary], relV _ rfl, h⟩
  · obtain rfl := Rep.v_inv hx
    exact ⟨_, _, fun _ => by simp [Op.unary, Op.intArith], relV _ rfl, h⟩
  · exact h.elim

end Go.Proofs.Ytmfdkjjhdjkgpaa

namespace Go.Proofs.Ytmfdkjjhdjkgpaa
open Go Go.RowKit

structure TyFacts (P : Program) (t : TypeId) (T : TyI) where
  i : TypeInfo
  z : Value
  info : P.info? t = some i
  zero : i.zero = some z
  size : T.size = i.size
  bytes : T.bytes = i.bytes
  zeros : T.zero = z.cells.toList.map constCV
  ones : ∀ v ∈ z.cells.toList, v.oneCell' = true
  zsize : z.cells.size = i.size
  und : (P.underlying t).isSome = true
  kind : T.kind = kindX P t
  aggz : isAggV z = T.kind.agg

theorem tyX_facts {P : Program} {t : TypeId} {T : TyI} (h : tyX P t = some T) : Nonempty (TyFacts P t T) := by
  unfold tyX at h
  cases hi : P.info? t with
  | none => simp [hi] at h
  | some i =>
    cases hz : i.zero with
    | none => simp [hi, hz] at h
    | some z =>
      simp only [hi, hz, Option.bind_some] at h
      split at h
      · rename_i hc
        simp only [Bool.and_eq_true, beq_iff_eq] at hc
        obtain ⟨⟨⟨h1, h2⟩, h3⟩, h4⟩ := hc
        obtain rfl := Option.some.inj h
        exact ⟨⟨i, z, hi, hz, rfl, rfl, rfl, fun v hv => List.all_eq_true.1 h1 v hv, h2, h3, rfl, h4⟩⟩
      · cases h

theorem TyFacts.run_sizeOf {P : Program} {t : TypeId} {T : TyI} (h : TyFacts P t T) (w : World) : (sizeOf t).run P w = .ok T.size w := by
  simp [sizeOf, typeInfo, h.info, h.size]

theorem TyFacts.run_typeInfo {P : Program} {t : TypeId} {T : TyI} (h : TyFacts P t T) (w : World) : (typeInfo t).run P w = .ok h.i w := by
  simp [typeInfo, h.info]

theorem TyFacts.run_zero {P : Program} {t : TypeId} {T : TyI} (h : TyFacts P t T) (w : World) : (zeroValue t).run P w = .ok h.z w := by
  simp [zeroValue, typeInfo, h.info, h.zero]

def descAgg : TypeDesc → Bool
  | .struct _ | .array _ _ => true
  | _ => false

theorem TyFacts.run_isAgg {P : Program} {t : TypeId} {T : TyI} (h : TyFacts P t T) (w : World) : (isAgg t).run P w = .ok T.kind.agg w := by
  obtain ⟨d, hd⟩ := Option.isSome_iff_exists.1 h.und
  have hk : T.kind.agg = descAgg d := by
    rw [h.kind]; unfold kindX; rw [hd]; cases d <;> first | rfl | (dsimp only; split <;> rfl)
  rw [hk]
  unfold isAgg
  rw [Sem.run_bind, run_underlying hd w]
  cases d <;> rfl

theorem add_none (b o n : Nat) : (⟨b, o, none⟩ : Addr).add n = ⟨b, o + n, none⟩ := by
  unfold Addr.add; split <;> simp_all

/-- A variable that lies in cells us from a place on. -/
theorem TyFacts.run_loadVar_agg {P : Program} {t : TypeId} {T : TyI} (h : TyFacts P t T) {w : World} {b o : Nat} (us : List Value) (hg : T.kind.agg = true) (hl : us.length = T.size)
    (hc : ∀ (j : Nat) u, us[j]? = some u → w.cell? ⟨b, o + j, none⟩ = some u) : (loadVar t ⟨b, o, none⟩).run P w = .ok (.agg us.toArray) w := by
  have h1 := run_loadCells_list (P := P) w ⟨b, o, none⟩ us (fun j u hu => by rw [add_none]; exact hc j u hu)
  rw [hl] at h1
  simp [loadVar, h.run_isAgg, hg, h.run_sizeOf, h1]

theorem TyFacts.run_loadVar_one {P : Program} {t : TypeId} {T : TyI} (h : TyFacts P t T) {w : World} {a : Addr} {u : Value} (hg : T.kind.agg = false)
    (hc : w.cell? a = some u) : (loadVar t a).run P w = .ok u w := by
  simp [loadVar, h.run_isAgg, hg, hc]

/-- cells as values: a list of abstract cells and what they stand for. -/
def RelCs (c : Ctx) (objs : Objs) (w : World) (xs : List CV) (us : List Value) : Prop :=
  us.length = xs.length ∧ ∀ (i : Nat) x, xs[i]? = some x → ∃ u, us[i]? = some u ∧ RelCV c objs w x u

theorem run_takeX {P : Program} {t : TypeId} {T : TyI} (hT : TyFacts P t T) {c : Ctx} {objs : Objs} {w : World} {cs : List CV} {off b o : Nat} {K : V1 → Prop}
    (h : takeX T cs off K) (hc : ∀ (j : Nat) x, cs[off + j]? = some x → ∃ u, w.cell? ⟨b, o + j, none⟩ = some u ∧ RelCV c objs w x u) :
    ∃ v z, (∀ w', SameOld w w' → (loadVar t ⟨b, o, none⟩).run P w' = .ok v w') ∧ RelV1 c objs w z v ∧ K z := by
  unfold takeX at h
  split at h
  · rename_i hg
    replace h := chkP_iff.1 h; obtain ⟨hle, hk⟩ := h
    have hex : ∀ j, j < T.size → ∃ u, w.cell? ⟨b, o + j, none⟩ = some u ∧ ∃ x, cs[off + j]? = some x ∧ RelCV c objs w x u := by
      intro j hj
      obtain ⟨u, h1, h2⟩ := hc j _ (List.getElem?_eq_getElem (show off + j < cs.length by omega))
      exact ⟨u, h1, _, List.getElem?_eq_getElem (by omega), h2⟩
    let f : Nat → Value := fun j => ((w.cell? ⟨b, o + j, none⟩).getD undef)
    have hf : ∀ j, j < T.size → w.cell? ⟨b, o + j, none⟩ = some (f j) := by
      intro j hj
      obtain ⟨u, h1, _⟩ := hex j hj
      simp [f, h1]
    refine ⟨.agg ((List.range T.size).map f).toArray, .agg ((cs.drop off).take T.size), fun w' hs => hT.run_loadVar_agg _ hg (by simp) ?_, ⟨_, rfl, by simp; omega, ?_⟩, hk⟩
    · intro j u hu
      simp only [List.getElem?_map, Option.map_eq_some_iff] at hu
      obtain ⟨i, hi, rfl⟩ := hu
      have hj : j < T.size := by
        have := (List.getElem?_eq_some_iff.1 hi).1; simpa using this
      have : i = j := by simpa [List.getElem?_range, hj] using hi.symm
      subst this
      exact hs.cell (hf _ hj)
    · intro i x hx
      rw [List.getElem?_take] at hx
      split at hx
      · rename_i hi
        rw [List.getElem?_drop] at hx
        obtain ⟨u, h1, h2⟩ := hc i x hx
        refine ⟨u, ?_, h2⟩
        have : f i = u := by simp [f, h1]
        simp [hi, this]
      · cases hx
  · rename_i hg
    split at h
    · rename_i x hx
      obtain ⟨u, h1, h2⟩ := hc 0 x (by simpa using hx)
      exact ⟨u, .c x, fun w' hs => hT.run_loadVar_one (by simpa using hg) (hs.cell (by simpa using h1)), h2, h⟩
    · exact h.elim

theorem objAt_some {objs : Objs} {o ver : Nat} {b : OB} (h : objAt objs o ver = some b) : objs[o]? = some (ver, b) := by
  unfold objAt at h
  split at h
  · split at h
    · rename_i hv
      obtain rfl := Option.some.inj h
      subst hv
      assumption
    · cases h
  · cases h

theorem live_of_objAt {objs : Objs} {o ver : Nat} {b : OB} (h : objAt objs o ver = some b) (hb : b ≠ .dead) : Live objs o ver := ⟨b, objAt_some h, hb⟩

theorem rel_cvOf {c : Ctx} {objs : Objs} {w : World} {d : DC} {u : Value} (h : Rep w c.R d u) : RelCV c objs w (cvOf d) u := by
  cases d with
  | v x => obtain rfl := Rep.v_inv h; exact rel_constCV _ _ _ _ (Rep.one h)
  | list e xs => exact h

theorem relOB_peel {c : Ctx} {objs : Objs} {w : World} {o : Nat} : ∀ {b : OB}, RelOB c objs w o b → RelOB c objs w o (peel b)
  | .fro _ b, h => relOB_peel (b := b) h.1
  | .dead, h => h
  | .box _, h => h
  | .arr _ _, h => h
  | .grid _ _, h => h
  | .map _ _, h => h

theorem objRd_ob {c : Ctx} {objs : Objs} {w : World} {o ver : Nat} {b : OB} (hr : RelObjs c objs w) (h : objRd objs o ver = some b) : RelOB c objs w o b ∧ Live objs o ver := by
  unfold objRd at h
  split at h
  · cases h
  · rename_i b' hb ho
    obtain rfl := Option.some.inj h
    exact ⟨relOB_peel (hr.ob o ver _ (objAt_some ho)), live_of_objAt ho hb⟩
  · cases h

theorem objRd_of {objs : Objs} {o ver e : Nat} {xs : List (List DC)} (h : objAt objs o ver = some (.arr e xs)) : objRd objs o ver = some (.arr e xs) := by
  simp [objRd, h, peel]

theorem cell_of {w : World} {b off : Nat} {cs : Array Value} {T : TypeId} {fr : Nat × Nat} (h : w.heap[b]? = some (.cells cs T fr)) : w.cell? ⟨b, off, none⟩ = cs[off]? := by
  simp [World.cell?, h]

def cvG (o ver p : Nat) : GC → CV
  | .d x => cvOf x
  | .row e ys => .gsl o ver p e 0 ys.length

theorem cvsG_get {o ver : Nat} : ∀ {p : Nat} {x : List GC} {k : Nat} {y : CV}, (cvsG o ver p x)[k]? = some y → ∃ g, x[k]? = some g ∧ y = cvG o ver (p + k) g
  | _, [], _, _, h => by simp [cvsG] at h
  | p, g :: r, 0, y, h => by
    refine ⟨g, rfl, ?_⟩
    cases g <;> simpa [cvsG, cvG] using h.symm
  | p, g :: r, k + 1, y, h => by
    have : (cvsG o ver (p + 1) r)[k]? = some y := by cases g <;> simpa [cvsG] using h
    obtain ⟨g', h1, h2⟩ := cvsG_get this
    exact ⟨g', by simpa using h1, by rw [h2, Nat.add_assoc, Nat.add_comm 1 k]⟩

theorem rel_cvG {c : Ctx} {objs : Objs} {w : World} {o ver p : Nat} {g : GC} {u : Value} (hk : Known objs o ver) (h : RelGC c w o p g u) : RelCV c objs w (cvG o ver p g) u := by
  cases g with
  | d x => exact rel_cvOf h
  | row e ys =>
    obtain ⟨a, cp, rfl, h1, _, h2⟩ := h
    exact ⟨rfl, hk, fun _ => ⟨a, cp, rfl, h1, fun h0 => by
      obtain ⟨b, base, cs, T, k1, k2, _⟩ := h2 h0
      exact ⟨b, base, k1, by simpa using k2⟩⟩⟩

theorem rowAt_some {e0 : Nat} {xs : List (List GC)} {p e : Nat} {ys : List (List DC)} (h : rowAt e0 xs p = some (e, ys)) : ∃ x, xs[p / e0]? = some x ∧ x[p % e0]? = some (.row e ys) := by
  unfold rowAt at h
  split at h
  · rename_i e' ys' hb
    obtain ⟨x, h1, h2⟩ := Option.bind_eq_some_iff.1 hb
    simp only [Option.some.injEq, Prod.mk.injEq] at h
    obtain ⟨rfl, rfl⟩ := h
    exact ⟨x, h1, h2⟩
  · cases h

theorem rowAt_rel {c : Ctx} {w : World} {o e0 base : Nat} {cs : Array Value} {xs : List (List GC)} {p e : Nat} {ys : List (List DC)} (_ : ∀ x ∈ xs, x.length = e0)
    (hg : ∀ (i j : Nat) g, (xs[i]?.bind (·[j]?)) = some g → ∃ u, cs[base + (i * e0 + j)]? = some u ∧ RelGC c w o (i * e0 + j) g u) (h : rowAt e0 xs p = some (e, ys)) : ∃ u, cs[base + p]? = some u ∧ RelGC c w o p (.row e ys) u := by
  obtain ⟨x, h1, h2⟩ := rowAt_some h
  obtain ⟨u, k1, k2⟩ := hg (p / e0) (p % e0) (.row e ys) (by simp [h1, h2])
  have e1 : p / e0 * e0 + p % e0 = p := by rw [Nat.mul_comm]; exact Nat.div_add_mod p e0
  rw [e1] at k1 k2
  exact ⟨u, k1, k2⟩

theorem run_loadX {P : Program} {t : TypeId} {T : TyI} (hT : TyFacts P t T) {c : Ctx} {objs : Objs} {w : World} {x : CV} {u : Value} {K : V1 → Prop}
    (hr : RelObjs c objs w) (h : loadX T objs x K) (hx : RelCV c objs w x u) :
    ∃ v z, (∀ w', SameOld w w' → (Instr.loadAt t u).run P w' = .ok v w') ∧ RelV1 c objs w z v ∧ K z := by
  unfold loadX at h
  split at h
  · rename_i o ver off
    split at h
    · rename_i cs hob
      obtain ⟨hob, hlive⟩ := objRd_ob hr hob
      obtain ⟨b, base, h1, rfl⟩ := hx.2.2 hlive
      obtain ⟨b', base', cs', T', g1, g2, g3, g4⟩ := hob
      rw [h1] at g1
      obtain ⟨rfl, rfl⟩ : b = b' ∧ base = base' := by simpa using g1
      have := run_takeX hT (c := c) (objs := objs) (w := w) (b := b) (o := base + off) h (fun j x hx => by
        obtain ⟨u, k1, k2⟩ := g4 _ x hx
        exact ⟨u, by rw [cell_of g2, ← k1]; congr 1; omega, k2⟩)
      simpa [Instr.loadAt, Instr.sureAddr] using this
    · exact h.elim
  · rename_i o ver e i j
    split at h
    · rename_i e' xs hob
      replace h := chkP_iff.1 h; obtain ⟨rfl, hlt, h⟩ := h
      obtain ⟨hob, hlive⟩ := objRd_ob hr hob
      obtain ⟨b, base, h1, rfl⟩ := hx.2.2 hlive
      rcases hob with ⟨g1, _⟩ | ⟨b', base', cs', T', g1, g2, g3, g4, g5⟩
      · rw [h1] at g1; cases g1
      · rw [h1] at g1
        obtain ⟨rfl, rfl⟩ : b = b' ∧ base = base' := by simpa using g1
        have hxi : xs[i]? = some xs[i] := List.getElem?_eq_getElem hlt
        have hK := h.all _ hxi
        have := run_takeX hT (c := c) (objs := objs) (w := w) (b := b) (o := base + (i * e + j)) hK (fun k x hx => by
          simp only [List.getElem?_map, Option.map_eq_some_iff] at hx
          obtain ⟨d, hd, rfl⟩ := hx
          obtain ⟨u, k1, k2⟩ := g5 i (j + k) d (by simp [hxi, hd])
          exact ⟨u, by rw [cell_of g2, ← k1]; congr 1; omega, rel_cvOf k2⟩)
        simpa [Instr.loadAt, Instr.sureAddr] using this
    · rename_i e' xs hob
      replace h := chkP_iff.1 h; obtain ⟨rfl, hlt, h⟩ := h
      obtain ⟨hob, hlive⟩ := objRd_ob hr hob
      have hkn := hx.2.1
      obtain ⟨b, base, h1, rfl⟩ := hx.2.2 hlive
      obtain ⟨b', base', cs', T', g1, g2, g3, g4, g5, _⟩ := hob
      rw [h1] at g1
      obtain ⟨rfl, rfl⟩ : b = b' ∧ base = base' := by simpa using g1
      have hxi : xs[i]? = some xs[i] := List.getElem?_eq_getElem hlt
      have hK := h.all _ hxi
      have := run_takeX hT (c := c) (objs := objs) (w := w) (b := b) (o := base + (i * e + j)) hK (fun k x hx => by
        obtain ⟨g, hg, rfl⟩ := cvsG_get hx
        obtain ⟨u, k1, k2⟩ := g5 i (j + k) g (by simp [hxi, hg])
        exact ⟨u, by rw [cell_of g2, ← k1]; congr 1; omega, rel_cvG hkn k2⟩)
      simpa [Instr.loadAt, Instr.sureAddr] using this
    · exact h.elim
  · rename_i o ver p e i j
    split at h
    · rename_i e0 xs hob
      obtain ⟨hob, hlive⟩ := objRd_ob hr hob
      obtain ⟨ys, hrow, hlt, h⟩ := h
      have hkn := hx.2.1
      obtain ⟨b, base, h1, rfl⟩ := hx.2.2 hlive
      obtain ⟨b0, base0, cs0, T0, g1, g2, g3, g4, g5, g6, g7⟩ := hob
      obtain ⟨u0, _, a, cp, rfl, k2, k3, k4⟩ := rowAt_rel g4 g5 hrow
      obtain ⟨b', base', cs, T', q1, q2, q3, q4, q5⟩ := k4 (by omega)
      rw [h1] at q1
      obtain ⟨rfl, rfl⟩ : b = b' ∧ base = base' := by simpa using q1
      have hyi : ys[i]? = some ys[i] := List.getElem?_eq_getElem hlt
      have hK := h.all _ hyi
      have := run_takeX hT (c := c) (objs := objs) (w := w) (b := b) (o := base + (i * e + j)) hK (fun k x hx => by
        simp only [List.getElem?_map, Option.map_eq_some_iff] at hx
        obtain ⟨d, hd, rfl⟩ := hx
        obtain ⟨u, k1, k2⟩ := q5 i (j + k) d (by simp [hyi, hd])
        exact ⟨u, by rw [cell_of q3, ← k1]; congr 1; omega, rel_cvOf k2⟩)
      simpa [Instr.loadAt, Instr.sureAddr] using this
    · exact h.elim
  · rename_i e xs i j
    obtain ⟨b, off, u', h1, h2, hlt, rfl⟩ := hx
    have hxi : xs[i]? = some xs[i] := List.getElem?_eq_getElem hlt
    have hK := h.all _ hxi
    cases h1 with
    | list _ _ a cap val hc hl hcell hrep =>
      simp only [Value.slice.injEq] at h2
      obtain ⟨rfl, _, _⟩ := h2
      have := run_takeX hT (c := c) (objs := objs) (w := w) (b := b) (o := off + (i * e + j)) hK (fun k x hx => by
        simp only [List.getElem?_map, Option.map_eq_some_iff] at hx
        obtain ⟨d, hd, rfl⟩ := hx
        have hlen : xs[i].length = e := hl _ (List.getElem_mem hlt)
        have hjk : j + k < e := by rw [← hlen]; exact (List.getElem?_eq_some_iff.1 hd).1
        obtain ⟨b', off', hb', _, hcl⟩ := hcell i (j + k) hlt hjk
        simp only [Option.some.injEq, Addr.mk.injEq, and_true] at hb'
        obtain ⟨rfl, rfl⟩ := hb'
        exact ⟨val i (j + k), by rw [← hcl]; congr 2; omega, rel_cvOf (hrep i (j + k) d (by simp [hxi, hd]))⟩)
      simpa [Instr.loadAt, Instr.sureAddr] using this
  · exact h.elim

end Go.Proofs.Ytmfdkjjhdjkgpaa

namespace Go.Proofs.Ytmfdkjjhdjkgpaa
open Go Go.RowKit

theorem Own.mk' {c : Ctx} {objs : Objs} {o ver b : Nat} {bd : OB} (h : objs[o]? = some (ver, bd)) (hb : bd.mine = true) (hp : c.has o b) : Own c objs b := ⟨o, ver, bd, h, hb, hp⟩

theorem Own.of {c : Ctx} {objs : Objs} {o ver b base : Nat} {bd : OB} (h : objs[o]? = some (ver, bd)) (hb : bd.mine = true) (hp : c.φ o = some (b, base)) : Own c objs b := ⟨o, ver, bd, h, hb, .inl ⟨base, hp⟩⟩

theorem RelGC.keep {n : Nat} {c c' : Ctx} {objs objs' : Objs} {w w' : World} (h : Ext n c objs w c' objs' w') (hr : RelObjs c objs w) {o p : Nat} {g : GC} {u : Value}
    (hψ : ∀ x, c.ψ o p = some x → c'.ψ o p = some x) (hb : ∀ b base, c.ψ o p = some (b, base) → w'.heap[b]? = w.heap[b]?) (ho : RelGC c w o p g u) : RelGC c' w' o p g u := by
  cases g with
  | d x => exact h.rep hr ho
  | row e ys =>
    obtain ⟨a, cp, rfl, h1, h2, h3⟩ := ho
    refine ⟨a, cp, rfl, h1, h2, fun h0 => ?_⟩
    obtain ⟨b, base, cs, T, k1, k2, k3, k4, k5⟩ := h3 h0
    refine ⟨b, base, cs, T, hψ _ k1, k2, (hb _ _ k1).trans k3, k4, fun i j d hd => ?_⟩
    obtain ⟨u, m1, m2⟩ := k5 i j d hd
    exact ⟨u, m1, h.rep hr m2⟩

theorem RepDV.keep {n : Nat} {c c' : Ctx} {objs objs' : Objs} {w w' : World} (h : Ext n c objs w c' objs' w') (hr : RelObjs c objs w) {d : DV} {u : Value} (ho : RepDV w c.R d u) : RepDV w' c'.R d u := by
  cases d with
  | c x => exact h.rep hr ho
  | agg xs =>
    obtain ⟨vs, h1, h2, h3⟩ := ho
    refine ⟨vs, h1, h2, fun i x hx => ?_⟩
    obtain ⟨u, k1, k2⟩ := h3 i x hx
    exact ⟨u, k1, h.rep hr k2⟩

/-- An object whose block stays stays what it is. -/
theorem RelOB.keep {n : Nat} {c c' : Ctx} {objs objs' : Objs} {w w' : World} (h : Ext n c objs w c' objs' w') (hn : objs.length ≤ n) (hr : RelObjs c objs w) {o : Nat} {bd : OB}
    (hφ : c'.φ o = c.φ o) (hψ : c'.ψ o = c.ψ o) (hb : ∀ b, c.has o b → w'.heap[b]? = w.heap[b]?) (ho : RelOB c objs w o bd) : RelOB c' objs' w' o bd := by
  induction bd with
  | dead => exact trivial
  | fro r b ih => exact ⟨ih ho.1, fun hr' k hk => h.rup k (ho.2 hr' k (by unfold Ctx.has at hk ⊢; rw [hφ, hψ] at hk; exact hk))⟩
  | grid e xs =>
    obtain ⟨b, base, cs, T, h1, h2, h3, h4, h5, h6, h7⟩ := ho
    refine ⟨b, base, cs, T, hφ.trans h1, (hb b (.inl ⟨base, h1⟩)).trans h2, h3, h4, fun i j g hg => ?_, by rw [hψ]; exact h6, by rw [hψ]; exact h7⟩
    obtain ⟨u, k1, k2⟩ := h5 i j g hg
    exact ⟨u, k1, k2.keep h hr (fun x hx => by rw [hψ]; exact hx) (fun b' base' hb' => hb b' (.inr ⟨_, _, hb'⟩))⟩
  | map n es =>
    obtain ⟨b, base, ents, clock, h1, h2, h3, h5, h6, h4⟩ := ho
    refine ⟨b, base, ents, clock, hφ.trans h1, (hb b (.inl ⟨base, h1⟩)).trans h2, h3, h5, h6, fun i k v hi => ?_⟩
    obtain ⟨en, k1, k2, k3⟩ := h4 i k v hi
    exact ⟨en, k1, k2, k3.keep h hr⟩
  | box xs =>
    obtain ⟨b, base, cs, T, h1, h2, h3, h4⟩ := ho
    refine ⟨b, base, cs, T, hφ.trans h1, (hb b (.inl ⟨base, h1⟩)).trans h2, h3, fun i x hx => ?_⟩
    obtain ⟨u, k1, k2⟩ := h4 i x hx
    exact ⟨u, k1, h.relCV hn hr k2⟩
  | arr e xs =>
    rcases ho with ⟨h1, h2⟩ | ⟨b, base, cs, T, h1, h2, h3, h4, h5⟩
    · exact .inl ⟨hφ.trans h1, h2⟩
    · refine .inr ⟨b, base, cs, T, hφ.trans h1, (hb b (.inl ⟨base, h1⟩)).trans h2, h3, h4, fun i j d hd => ?_⟩
      obtain ⟨u, k1, k2⟩ := h5 i j d hd
      exact ⟨u, k1, h.rep hr k2⟩

theorem setRow_size (w : World) (g : Nat) (cs : Array Value) : (w.setRow g cs).heap.size = w.heap.size := by simp [World.setRow]

theorem getElem?_set_self' {objs : Objs} {o : Nat} {x y : Nat × OB} (h : objs[o]? = some x) : (objs.set o y)[o]? = some y := by
  have := (List.getElem?_eq_some_iff.1 h).1
  simp [this]

theorem set_cases {objs : Objs} {o o' : Nat} {x y z : Nat × OB} (h : objs[o]? = some x) (hz : (objs.set o y)[o']? = some z) : (o' = o ∧ z = y) ∨ (o' ≠ o ∧ objs[o']? = some z) := by
  by_cases e : o' = o
  · subst e
    rw [getElem?_set_self' h] at hz
    exact .inl ⟨rfl, (Option.some.inj hz).symm⟩
  · rw [List.getElem?_set_ne (Ne.symm e)] at hz
    exact .inr ⟨e, hz⟩

/-- What a change in one of the call's own blocks makes of the rest. -/
theorem write_gen {c : Ctx} {objs : Objs} {w w' : World} {o ver b : Nat} {bd bd' : OB} (hr : RelObjs c objs w)
    (ho : objs[o]? = some (ver, bd)) (hd : bd.mine = true) (hd' : bd'.mine = true) (hφ : c.has o b) (hs : w'.heap.size = w.heap.size) (ht : w'.tape = w.tape) (hos : w'.os = w.os) (hout : w'.output = w.output)
    (hkeep : ∀ k : Nat, k ≠ b → w'.heap[k]? = w.heap[k]?) (hshape : ∀ cs T, w.heap[b]? = some (Obj.cells cs T (0, 0)) → ∃ cs', w'.heap[b]? = some (Obj.cells cs' T (0, 0)) ∧ cs'.size = cs.size)
    (hn : Ext objs.length c objs w c (objs.set o (ver, bd')) w' → RelOB c (objs.set o (ver, bd')) w' o bd') :
    Ext objs.length c objs w c (objs.set o (ver, bd')) w' ∧ RelObjs c (objs.set o (ver, bd')) w' := by
  have hown : ∀ k, Own c (objs.set o (ver, bd')) k → Own c objs k := by
    rintro k ⟨o', ver', bd2, h1, h2, h3⟩
    rcases set_cases ho h1 with ⟨rfl, h4⟩ | ⟨_, h4⟩
    · exact .mk' ho hd h3
    · exact .mk' h4 h2 h3
  have hE : Ext objs.length c objs w c (objs.set o (ver, bd')) w' := by
    refine ⟨by omega, ht, hos, hout, ?_, ?_, fun k hk => .inl (hown k hk), fun _ h => h, fun _ h => .inl h, ?_⟩
    · intro k hk hno
      exact hkeep k (fun e => hno (e ▸ .mk' ho hd hφ))
    · intro k ks U hk
      by_cases e : k = b
      · subst e; exact hshape ks U hk
      · exact ⟨ks, (hkeep k e).trans hk, rfl⟩
    · intro o' cur bd2 _ h1
      by_cases e : o' = o
      · subst e
        rw [ho] at h1
        obtain ⟨rfl, rfl⟩ : ver = cur ∧ bd = bd2 := by simpa using h1
        exact ⟨_, _, getElem?_set_self' ho, Nat.le_refl _, fun _ _ => ⟨OB.mine_live hd, rfl, fun _ _ h => h⟩⟩
      · exact ⟨cur, bd2, by rw [List.getElem?_set_ne (Ne.symm e)]; exact h1, Nat.le_refl _, fun _ h => ⟨h, rfl, fun _ _ h => h⟩⟩
  refine ⟨hE, ?_, ?_, ?_, ?_, ?_⟩
  · intro o' ver' bd2 h1
    rcases set_cases ho h1 with ⟨rfl, h4⟩ | ⟨hne, h4⟩
    · obtain ⟨rfl, rfl⟩ : ver' = ver ∧ bd2 = bd' := by simpa using h4
      exact hn hE
    · by_cases hdead : bd2 = .dead
      · subst hdead; exact trivial
      refine RelOB.keep hE (Nat.le_refl _) hr rfl rfl (fun b2 hp => hkeep b2 ?_) (hr.ob o' ver' bd2 h4)
      rintro rfl
      exact hne (hr.inj o o' ver ver' bd bd2 b2 ho hd h4 hdead hφ hp).symm
  · intro o1 o2 v1 v2 b1 b2 k h1 h2 h3 h4 h5 h6
    have k1 : ∃ v x, objs[o1]? = some (v, x) ∧ x.mine = true := by
      rcases set_cases ho h1 with ⟨rfl, _⟩ | ⟨_, h⟩
      · exact ⟨_, _, ho, hd⟩
      · exact ⟨_, _, h, h2⟩
    have k2 : ∃ v x, objs[o2]? = some (v, x) ∧ x ≠ .dead := by
      rcases set_cases ho h3 with ⟨rfl, _⟩ | ⟨_, h⟩
      · exact ⟨_, _, ho, OB.mine_live hd⟩
      · exact ⟨_, _, h, h4⟩
    obtain ⟨w1, x1, p1, q1⟩ := k1
    obtain ⟨w2, x2, p2, q2⟩ := k2
    exact hr.inj o1 o2 w1 w2 x1 x2 k p1 q1 p2 q2 h5 h6
  · intro k hk
    rw [hs]
    exact hr.rsize k hk
  · intro o' ver' bd2 k h1 h2 h3
    rw [hs]
    rcases set_cases ho h1 with ⟨rfl, h4⟩ | ⟨_, h4⟩
    · exact hr.lsize _ _ _ k ho (OB.mine_live hd) h3
    · exact hr.lsize _ _ _ k h4 h2 h3
  · exact fun k hk => hr.oR k (hown k hk)

theorem write_cells {c : Ctx} {objs : Objs} {w : World} {o ver b : Nat} {bd bd' : OB} {cs cs' : Array Value} {T : TypeId} (hr : RelObjs c objs w)
    (ho : objs[o]? = some (ver, bd)) (hd : bd.mine = true) (hd' : bd'.mine = true) (hφ : c.has o b) (hb : w.heap[b]? = some (.cells cs T (0, 0))) (hs : cs'.size = cs.size)
    (hn : Ext objs.length c objs w c (objs.set o (ver, bd')) (w.setRow b cs') → RelOB c (objs.set o (ver, bd')) (w.setRow b cs') o bd') :
    Ext objs.length c objs w c (objs.set o (ver, bd')) (w.setRow b cs') ∧ RelObjs c (objs.set o (ver, bd')) (w.setRow b cs') := by
  refine write_gen hr ho hd hd' hφ (setRow_size ..) rfl rfl rfl (fun k hk => setRow_other w b k cs' hk) (fun ks U hk => ?_) hn
  rw [hb] at hk
  simp only [Option.some.injEq, Obj.cells.injEq, and_true] at hk
  obtain ⟨rfl, rfl⟩ := hk
  exact ⟨cs', setRow_heap w b cs cs' T (0, 0) hb, hs⟩

theorem length_setCells (vs : List CV) : ∀ (cs : List CV) (off : Nat), (setCells cs off vs).length = cs.length := by
  induction vs with
  | nil => intros; rfl
  | cons v r ih => intro cs off; simp [setCells, ih]

theorem get_setCells (vs : List CV) : ∀ (cs : List CV) (off i : Nat), off + vs.length ≤ cs.length →
    (setCells cs off vs)[i]? = if off ≤ i ∧ i < off + vs.length then vs[i - off]? else cs[i]? := by
  induction vs with
  | nil => intro cs off i _; simp [setCells]; omega
  | cons v r ih =>
    intro cs off i h
    simp only [List.length_cons] at h
    rw [setCells, ih _ _ _ (by simp; omega), List.getElem?_set]
    simp only [List.length_cons]
    by_cases h1 : off = i
    · subst h1
      rw [if_neg (by omega), if_pos rfl, if_pos (by omega), if_pos ⟨by omega, by omega⟩]
      simp
    · by_cases h2 : off ≤ i ∧ i < off + (r.length + 1)
      · rw [if_pos (by omega), if_pos h2, show i - off = (i - (off + 1)) + 1 by omega]
        simp
      · rw [if_neg (by omega), if_neg h2, if_neg h1]

theorem length_setDC (vs : List DC) : ∀ (cs : List DC) (off : Nat), (setDC cs off vs).length = cs.length := by
  induction vs with
  | nil => intros; rfl
  | cons v r ih => intro cs off; simp [setDC, ih]

theorem get_setDC (vs : List DC) : ∀ (cs : List DC) (off i : Nat), off + vs.length ≤ cs.length →
    (setDC cs off vs)[i]? = if off ≤ i ∧ i < off + vs.length then vs[i - off]? else cs[i]? := by
  induction vs with
  | nil => intro cs off i _; simp [setDC]; omega
  | cons v r ih =>
    intro cs off i h
    simp only [List.length_cons] at h
    rw [setDC, ih _ _ _ (by simp; omega), List.getElem?_set]
    simp only [List.length_cons]
    by_cases h1 : off = i
    · subst h1
      rw [if_neg (by omega), if_pos rfl, if_pos (by omega), if_pos ⟨by omega, by omega⟩]
      simp
    · by_cases h2 : off ≤ i ∧ i < off + (r.length + 1)
      · rw [if_pos (by omega), if_pos h2, show i - off = (i - (off + 1)) + 1 by omega]
        simp
      · rw [if_neg (by omega), if_neg h2, if_neg h1]

/-- A row of cells with some of them written. -/
def putRow' (cs : Array Value) (o : Nat) (vs : List Value) : Array Value := (cs.toList.take o ++ vs ++ cs.toList.drop (o + vs.length)).toArray

theorem size_putRow' {cs : Array Value} {o : Nat} {vs : List Value} (h : o + vs.length ≤ cs.size) : (putRow' cs o vs).size = cs.size := by
  simp [putRow']; omega

theorem get_putRow' {cs : Array Value} {o : Nat} {vs : List Value} (h : o + vs.length ≤ cs.size) (i : Nat) :
    (putRow' cs o vs)[i]? = if o ≤ i ∧ i < o + vs.length then vs[i - o]? else cs[i]? := by
  simp only [putRow', List.getElem?_toArray, List.append_assoc]
  have hl : (cs.toList.take o).length = o := by simp; omega
  by_cases h1 : i < o
  · rw [List.getElem?_append_left (by omega), if_neg (by omega), List.getElem?_take, if_pos h1]
    simp
  · rw [List.getElem?_append_right (by omega), hl]
    by_cases h2 : i < o + vs.length
    · rw [List.getElem?_append_left (by omega), if_pos ⟨by omega, h2⟩]
    · rw [List.getElem?_append_right (by omega), if_neg (by omega), List.getElem?_drop]
      rw [Array.getElem?_toList]
      congr 1; omega

theorem run_storeCells_put {P : Program} {w : World} {b o : Nat} {cs : Array Value} {T : TypeId} (hb : w.heap[b]? = some (.cells cs T (0, 0))) (vs : List Value) (h : o + vs.length ≤ cs.size)
    (h1 : ∀ v ∈ vs, v.oneCell' = true) : (storeCells ⟨b, o, none⟩ vs).run P w = .ok () (w.setRow b (putRow' cs o vs)) := by
  have := run_storeCells_at (P := P) b o T vs 0 cs w hb (by simpa using h) h1
  simpa [putRow'] using this

theorem TyFacts.run_storeVar {P : Program} {t : TypeId} {T : TyI} (h : TyFacts P t T) {w : World} {b o : Nat} {cs : Array Value} {U : TypeId} {v : Value}
    (hb : w.heap[b]? = some (.cells cs U (0, 0))) (hs : v.cells.size = T.size) (hf : o + T.size ≤ cs.size) (h1 : ∀ x ∈ v.cells.toList, x.oneCell' = true) :
    (storeVar t ⟨b, o, none⟩ v).run P w = .ok () (w.setRow b (putRow' cs o v.cells.toList)) := by
  have hst := run_storeCells_put (P := P) hb v.cells.toList (by simpa [hs] using hf) h1
  simp [storeVar, h.run_sizeOf, hs, hst]

theorem relCs_one {c : Ctx} {objs : Objs} {w : World} {xs : List CV} {us : List Value} (h : RelCs c objs w xs us) : ∀ u ∈ us, u.oneCell' = true := by
  intro u hu
  obtain ⟨i, hi, rfl⟩ := List.mem_iff_getElem.1 hu
  obtain ⟨u', h1, h2⟩ := h.2 i (xs[i]'(by rw [← h.1]; exact hi)) (List.getElem?_eq_getElem _)
  rw [List.getElem?_eq_getElem hi] at h1
  obtain rfl := Option.some.inj h1
  exact h2.one

theorem dcsOf_spec : ∀ {vs : List CV} {ds : List DC}, dcsOf vs = some ds → ds.length = vs.length ∧ ∀ (i : Nat) x, vs[i]? = some x → ∃ d, ds[i]? = some d ∧ dcOf x = some d
  | [], ds, h => by obtain rfl := Option.some.inj h; exact ⟨rfl, by simp⟩
  | x :: r, ds, h => by
    unfold dcsOf at h
    split at h
    · rename_i d ds' h1 h2
      obtain rfl := Option.some.inj h
      obtain ⟨k1, k2⟩ := dcsOf_spec h2
      refine ⟨by simp [k1], fun i y hy => ?_⟩
      cases i with
      | zero => simp only [List.getElem?_cons_zero, Option.some.injEq] at hy ⊢; subst hy; exact ⟨d, rfl, h1⟩
      | succ i => simp only [List.getElem?_cons_succ] at hy ⊢; exact k2 i y hy
    · cases h

theorem rep_dcOf {c : Ctx} {objs : Objs} {w : World} {x : CV} {d : DC} {u : Value} (h : dcOf x = some d) (hx : RelCV c objs w x u) : Rep w c.R d u := by
  cases x with
  | d y => obtain rfl := Option.some.inj h; exact hx
  | nilsl => obtain rfl := Option.some.inj h; obtain rfl := hx; exact .v _ rfl
  | _ => cases h

theorem setDC_whole {x ds : List DC} {j : Nat} (hl : ds.length = x.length) (hj : j + ds.length ≤ x.length) : setDC x j ds = ds := by
  obtain rfl : j = 0 := by omega
  apply List.ext_getElem?
  intro i
  rw [get_setDC _ _ _ _ (by omega)]
  by_cases h : i < ds.length
  · rw [if_pos ⟨Nat.zero_le _, by omega⟩]; rfl
  · rw [if_neg (by omega), List.getElem?_eq_none (by omega), List.getElem?_eq_none (by omega)]

/-- An own row as a datum. -/
theorem rep_of_sl {c : Ctx} {objs : Objs} {w : World} {o ver e off len : Nat} {cap : Option Nat} {u : Value} {xs : List (List DC)} {R' : Nat → Prop} (hob : RelOB c objs w o (.arr e xs)) (hlive : Live objs o ver)
    (hx : RelCV c objs w (.sl o ver e off len cap) u) (hol : off + len ≤ xs.length) (hR : ∀ b, c.R b → R' b) (hR2 : ∀ b base, c.φ o = some (b, base) → R' b) : Rep w R' (.list e ((xs.drop off).take len)) u := by
  obtain ⟨_, _, hx⟩ := hx
  obtain ⟨a, cp, rfl, h2, _, h4⟩ := hx hlive
  have hlen : ((xs.drop off).take len).length = len := by simp; omega
  by_cases h0 : len = 0
  · subst h0
    simp only [List.take_zero]
    exact .list e [] a cp (fun _ _ => undef) (by simp) (by simp) (fun i j hi => by simp at hi) (by simp)
  obtain ⟨b, base, cs, T, g1, rfl, g3, g4⟩ := h4 (by omega)
  rcases hob with ⟨q1, _⟩ | ⟨b', base', cs', T', q1, q2, q3, q4, q5⟩
  · rw [q1] at g1; cases g1
  rw [g1] at q1
  obtain ⟨rfl, rfl⟩ : b = b' ∧ base = base' := by simpa using q1
  have hget : ∀ i, i < len → ((xs.drop off).take len)[i]? = xs[off + i]? := by
    intro i hi
    rw [List.getElem?_take, if_pos hi, List.getElem?_drop]
  have hl : ∀ y ∈ (xs.drop off).take len, y.length = e := fun y hy => q4 y (List.mem_of_mem_drop (List.mem_of_mem_take hy))
  have := Rep.list (w := w) (R := R') e ((xs.drop off).take len) (some ⟨b, base + off * e, none⟩) cp (fun i j => (cs'[base + ((off + i) * e + j)]?).getD undef) (by omega) hl
    (fun i j hi hj => by
      rw [hlen] at hi
      refine ⟨b, base + off * e, rfl, hR2 b base g1, ?_⟩
      have hxi : xs[off + i]? = some (xs[off + i]'(by omega)) := List.getElem?_eq_getElem _
      have hxl : (xs[off + i]'(by omega)).length = e := q4 _ (List.getElem_mem _)
      obtain ⟨u, k1, k2⟩ := q5 (off + i) j ((xs[off + i]'(by omega))[j]'(by omega)) (by rw [hxi]; simp)
      rw [cell_of q2, show base + off * e + (i * e + j) = base + ((off + i) * e + j) by rw [Nat.add_mul]; omega, k1]
      rfl)
    (fun i j d hd => by
      have hi : i < len := by
        rcases Nat.lt_or_ge i len with h | h
        · exact h
        · rw [List.getElem?_eq_none (by omega)] at hd; cases hd
      rw [hget i hi] at hd
      obtain ⟨u, k1, k2⟩ := q5 (off + i) j d hd
      rw [k1]
      exact k2.mono hR (fun _ _ => rfl))
  rw [hlen] at this
  exact this

/-- The context in which object o's row is read by all. -/
def Ctx.froze (c : Ctx) (o : Nat) : Ctx := { c with R := fun b => c.R b ∨ c.has o b }

/-- A row of the call's own that nobody will write any more. -/
theorem freeze_ok {c : Ctx} {objs : Objs} {w : World} {o ver e : Nat} {xs : List (List DC)} (hr : RelObjs c objs w) (ho : objs[o]? = some (ver, .arr e xs)) :
    Ext objs.length c objs w (c.froze o) (objs.set o (ver, .fro true (.arr e xs))) w ∧ RelObjs (c.froze o) (objs.set o (ver, .fro true (.arr e xs))) w := by
  have hown : ∀ k, Own (c.froze o) (objs.set o (ver, .fro true (.arr e xs))) k → ∃ o' ver' bd, o' ≠ o ∧ objs[o']? = some (ver', bd) ∧ bd.mine = true ∧ c.has o' k := by
    rintro k ⟨o', ver', bd2, h1, h2, h3⟩
    rcases set_cases ho h1 with ⟨rfl, h4⟩ | ⟨hne, h4⟩
    · simp only [Prod.mk.injEq] at h4; rw [h4.2] at h2; cases h2
    · exact ⟨o', ver', bd2, hne, h4, h2, h3⟩
  have hlive : ∀ {o' ver' : Nat} {bd : OB}, (objs.set o (ver, .fro true (.arr e xs)))[o']? = some (ver', bd) → bd ≠ .dead → ∃ v x, objs[o']? = some (v, x) ∧ x ≠ .dead := by
    intro o' ver' bd h hd
    rcases set_cases ho h with ⟨rfl, _⟩ | ⟨_, h4⟩
    · exact ⟨_, _, ho, by simp⟩
    · exact ⟨_, _, h4, hd⟩
  have hE : Ext objs.length c objs w (c.froze o) (objs.set o (ver, .fro true (.arr e xs))) w := by
    refine ⟨Nat.le_refl _, rfl, rfl, rfl, fun _ _ _ => rfl, fun _ cs _ h => ⟨cs, h, rfl⟩, fun k hk => ?_, fun _ h => .inl h, ?_, ?_⟩
    · obtain ⟨o', ver', bd, _, h1, h2, h3⟩ := hown k hk
      exact .inl (.mk' h1 h2 h3)
    · rintro k (h | h)
      · exact .inl h
      · exact .inr (.inl (.mk' ho rfl h))
    · intro o' cur bd2 _ h1
      by_cases e' : o' = o
      · subst e'
        rw [ho] at h1
        obtain ⟨rfl, rfl⟩ : ver = cur ∧ OB.arr e xs = bd2 := by simpa using h1
        exact ⟨_, _, getElem?_set_self' ho, Nat.le_refl _, fun _ _ => ⟨by simp, rfl, fun _ _ h => h⟩⟩
      · exact ⟨cur, bd2, by rw [List.getElem?_set_ne (Ne.symm e')]; exact h1, Nat.le_refl _, fun _ h => ⟨h, rfl, fun _ _ h => h⟩⟩
  refine ⟨hE, ?_, ?_, ?_, ?_, ?_⟩
  · intro o' ver' bd2 h1
    rcases set_cases ho h1 with ⟨rfl, h4⟩ | ⟨_, h4⟩
    · obtain ⟨rfl, rfl⟩ : ver' = ver ∧ bd2 = .fro true (.arr e xs) := by simpa using h4
      exact ⟨RelOB.keep (bd := .arr e xs) hE (Nat.le_refl _) hr rfl rfl (fun _ _ => rfl) (hr.ob _ _ _ ho), fun _ k hk => .inr hk⟩
    · exact RelOB.keep hE (Nat.le_refl _) hr rfl rfl (fun _ _ => rfl) (hr.ob o' ver' bd2 h4)
  · intro o1 o2 v1 v2 b1 b2 k h1 h2 h3 h4 h5 h6
    have k1 : ∃ v x, objs[o1]? = some (v, x) ∧ x.mine = true := by
      rcases set_cases ho h1 with ⟨rfl, h⟩ | ⟨_, h⟩
      · exact ⟨_, _, ho, rfl⟩
      · exact ⟨_, _, h, h2⟩
    obtain ⟨w1, x1, p1, q1⟩ := k1
    obtain ⟨w2, x2, p2, q2⟩ := hlive h3 h4
    exact hr.inj o1 o2 w1 w2 x1 x2 k p1 q1 p2 q2 h5 h6
  · rintro k (h | h)
    · exact hr.rsize k h
    · exact hr.lsize _ _ _ k ho (by simp) h
  · intro o' ver' bd2 k h1 h2 h3
    obtain ⟨v, x, p1, p2⟩ := hlive h1 h2
    exact hr.lsize _ _ _ k p1 p2 h3
  · intro k hk
    obtain ⟨o', ver', bd, hne, h1, h2, h3⟩ := hown k hk
    rintro (h | h)
    · exact hr.oR k (.mk' h1 h2 h3) h
    · exact hne (hr.inj _ _ _ _ _ _ k h1 h2 ho (by simp) h3 h)

/-- A cell's value as a datum. -/
theorem run_freezeC {c : Ctx} {objs objs' : Objs} {w : World} {x : CV} {d : DC} {u : Value} (hr : RelObjs c objs w) (h : freezeC objs x = some (d, objs')) (hok : freezeOK objs x) (hx : RelCV c objs w x u) :
    ∃ c', Ext objs.length c objs w c' objs' w ∧ RelObjs c' objs' w ∧ Rep w c'.R d u ∧ objs'.length = objs.length := by
  unfold freezeC at h
  split at h
  · simp only [Option.some.injEq, Prod.mk.injEq] at h
    obtain ⟨rfl, rfl⟩ := h
    exact ⟨c, Ext.refl _ _ _ _, hr, hx, rfl⟩
  · simp only [Option.some.injEq, Prod.mk.injEq] at h
    obtain ⟨rfl, rfl⟩ := h
    obtain rfl := hx
    exact ⟨c, Ext.refl _ _ _ _, hr, .v _ rfl, rfl⟩
  · rename_i o ver e off len cap
    split at h
    · rename_i e' xs hob
      split at h
      · rename_i he
        obtain ⟨he1, hpos⟩ := he
        subst he1
        simp only [Option.some.injEq, Prod.mk.injEq] at h
        obtain ⟨rfl, rfl⟩ := h
        have ho := objAt_some hob
        obtain ⟨hE, hr'⟩ := freeze_ok hr ho
        have hol : off + len ≤ xs.length := by simpa [freezeOK, hob] using hok
        exact ⟨_, hE, hr', rep_of_sl (hr.ob _ _ _ ho) (live_of_objAt hob (by simp)) hx hol (fun _ h => .inl h) (fun _ base h => .inr (.inl ⟨base, h⟩)), by simp⟩
      · cases h
    · rename_i e' xs hob
      split at h
      · rename_i he
        obtain ⟨he1, hpos⟩ := he
        subst he1
        simp only [Option.some.injEq, Prod.mk.injEq] at h
        obtain ⟨rfl, rfl⟩ := h
        have ho := objAt_some hob
        have hol : off + len ≤ xs.length := by simpa [freezeOK, hob] using hok
        obtain ⟨h1, h2⟩ := hr.ob _ _ _ ho
        exact ⟨c, Ext.refl _ _ _ _, hr, rep_of_sl h1 (live_of_objAt hob (by simp)) hx hol (fun _ h => h) (fun k base h => h2 rfl k (.inl ⟨base, h⟩)), rfl⟩
      · cases h
    · cases h
  · cases h

theorem Ext.len0 {c c' : Ctx} {objs objs' : Objs} {w w' : World} (h : Ext objs.length c objs w c' objs' w') : objs.length ≤ objs'.length := by
  rcases Nat.eq_zero_or_pos objs.length with h0 | h0
  · omega
  · have hlt : objs.length - 1 < objs.length := by omega
    obtain ⟨cur', bd', h1, _⟩ := h.refs (objs.length - 1) objs[objs.length - 1].1 objs[objs.length - 1].2 hlt (List.getElem?_eq_getElem hlt)
    have := (List.getElem?_eq_some_iff.1 h1).1
    omega

theorem setG_len {e : Nat} {xs : List (List GC)} {p : Nat} {g : GC} : (setG e xs p g).length = xs.length := by
  unfold setG; split <;> simp

theorem setG_lens {e : Nat} {xs : List (List GC)} {p : Nat} {g : GC} (h : ∀ x ∈ xs, x.length = e) : ∀ x ∈ setG e xs p g, x.length = e := by
  unfold setG
  split
  · rename_i x hx
    intro y hy
    rcases List.mem_or_eq_of_mem_set hy with hy | rfl
    · exact h y hy
    · simpa using h x (List.mem_of_getElem? hx)
  · exact h

theorem setG_get {e : Nat} {xs : List (List GC)} {p i j : Nat} {g y : GC} (hl : ∀ x ∈ xs, x.length = e) (h : ((setG e xs p g)[i]?.bind (·[j]?)) = some y) : (i * e + j = p ∧ y = g) ∨ (i * e + j ≠ p ∧ (xs[i]?.bind (·[j]?)) = some y) := by
  have hje : ∀ {x : List GC}, (setG e xs p g)[i]? = some x → x[j]? = some y → j < e := by
    intro x h1 h2
    have := setG_lens (p := p) (g := g) hl x (List.mem_of_getElem? h1)
    rw [← this]
    exact (List.getElem?_eq_some_iff.1 h2).1
  obtain ⟨x, h1, h2⟩ := Option.bind_eq_some_iff.1 h
  have hj := hje h1 h2
  have hdm : (i * e + j) / e = i ∧ (i * e + j) % e = j := by
    rw [Nat.mul_comm]
    exact ⟨by rw [Nat.mul_add_div (by omega), Nat.div_eq_of_lt hj, Nat.add_zero], by rw [Nat.mul_add_mod, Nat.mod_eq_of_lt hj]⟩
  unfold setG at h1
  split at h1
  · rename_i x0 hx0
    rw [List.getElem?_set] at h1
    by_cases hi : p / e = i
    · rw [if_pos hi, if_pos (by rw [hi] at hx0 ⊢; exact (List.getElem?_eq_some_iff.1 hx0).1)] at h1
      obtain rfl := Option.some.inj h1
      rw [List.getElem?_set] at h2
      by_cases hj2 : p % e = j
      · rw [if_pos hj2] at h2
        split at h2
        · refine .inl ⟨?_, (Option.some.inj h2).symm⟩
          rw [← hi, ← hj2, Nat.mul_comm]; exact Nat.div_add_mod p e
        · cases h2
      · rw [if_neg hj2] at h2
        refine .inr ⟨fun hp => hj2 (by rw [← hp]; exact hdm.2), ?_⟩
        rw [← hi, hx0]; exact h2
    · rw [if_neg hi] at h1
      exact .inr ⟨fun hp => hi (by rw [← hp]; exact hdm.1), by rw [h1]; exact h2⟩
  · rename_i hx0
    refine .inr ⟨fun hp => ?_, by rw [h1]; exact h2⟩
    rw [← hp, hdm.1, h1] at hx0; cases hx0

theorem setG_row {e e1 : Nat} {xs : List (List GC)} {p p' : Nat} {zs : List (List DC)} (h : ∃ y e' ys, xs[p' / e]? = some y ∧ y[p' % e]? = some (.row e' ys)) :
    ∃ y e' ys, (setG e xs p (.row e1 zs))[p' / e]? = some y ∧ y[p' % e]? = some (.row e' ys) := by
  obtain ⟨y, e', ys, h1, h2⟩ := h
  unfold setG
  split
  · rename_i x0 hx0
    rw [List.getElem?_set]
    by_cases hi : p / e = p' / e
    · rw [if_pos hi, if_pos (by rw [hi] at hx0 ⊢; exact (List.getElem?_eq_some_iff.1 hx0).1)]
      rw [hi, h1] at hx0
      obtain rfl := Option.some.inj hx0
      by_cases hj : p % e = p' % e
      · exact ⟨_, e1, zs, rfl, by rw [hj, List.getElem?_set_self (List.getElem?_eq_some_iff.1 h2).1]⟩
      · exact ⟨_, e', ys, rfl, by rw [List.getElem?_set_ne hj]; exact h2⟩
    · rw [if_neg hi]
      exact ⟨y, e', ys, h1, h2⟩
  · exact ⟨y, e', ys, h1, h2⟩

/-- A row of the call's own comes into an empty cell of a row of rows. -/
theorem absorb_ok {c : Ctx} {objs : Objs} {w : World} {o ver o' ver' e2 len i b0 base0 : Nat} {cap : Option Nat} {xs : List (List GC)} {ys : List (List DC)} {u0 : Value} {cs0 : Array Value} {T0 : TypeId} (hr : RelObjs c objs w)
    (ho : objs[o]? = some (ver, .grid 1 xs)) (ho' : objs[o']? = some (ver', .arr e2 ys)) (hne : o' ≠ o) (hi : xs[i]? = some [.d (.v (.slice none 0 0))]) (hlen : len ≤ ys.length) (hu : RelCV c objs w (.sl o' ver' e2 0 len cap) u0)
    (g1 : c.φ o = some (b0, base0)) (g2 : w.heap[b0]? = some (.cells cs0 T0 (0, 0))) :
    ∃ c', Ext objs.length c objs w c' ((objs.set o (ver, .grid 1 (xs.set i [.row e2 (ys.take len)]))).set o' (ver', .dead)) (w.setRow b0 (putRow' cs0 (base0 + i) [u0])) ∧
      RelObjs c' ((objs.set o (ver, .grid 1 (xs.set i [.row e2 (ys.take len)]))).set o' (ver', .dead)) (w.setRow b0 (putRow' cs0 (base0 + i) [u0])) := by
  obtain ⟨b0', base0', cs0', T0', q1, q2, g3, g4, g5, g6, g7, g8⟩ := hr.ob _ _ _ ho
  rw [g1] at q1
  obtain ⟨rfl, rfl⟩ : b0 = b0' ∧ base0 = base0' := by simpa using q1
  rw [g2] at q2
  simp only [Option.some.injEq, Obj.cells.injEq, and_true] at q2
  obtain ⟨rfl, rfl⟩ := q2
  have hil : i < xs.length := (List.getElem?_eq_some_iff.1 hi).1
  have hfit : (base0 + i) + [u0].length ≤ cs0.size := by simp; omega
  have hψ0 : c.ψ o i = none := by
    cases hp : c.ψ o i with
    | none => rfl
    | some x =>
      obtain ⟨y, e', zs, h1, h2⟩ := g8 i x hp
      rw [Nat.div_one, hi] at h1
      obtain rfl := Option.some.inj h1
      rw [Nat.mod_one] at h2
      simp at h2
  let c' : Ctx := { c with ψ := fun k p => if k = o ∧ p = i then c.φ o' else c.ψ k p }
  have hψo : ∀ k p, k ≠ o → c'.ψ k p = c.ψ k p := fun k p h => by simp [c', h]
  have hψp : ∀ p, p ≠ i → c'.ψ o p = c.ψ o p := fun p h => by simp [c', h]
  have hψi : c'.ψ o i = c.φ o' := by simp [c']
  have hlt' : o' < (objs.set o (ver, OB.grid 1 (xs.set i [GC.row e2 (ys.take len)]))).length := by simp; exact (List.getElem?_eq_some_iff.1 ho').1
  have hobs : ∀ {o1 v1 : Nat} {b1 : OB}, ((objs.set o (ver, OB.grid 1 (xs.set i [GC.row e2 (ys.take len)]))).set o' (ver', OB.dead))[o1]? = some (v1, b1) →
      (o1 = o' ∧ b1 = .dead) ∨ (o1 = o ∧ v1 = ver ∧ b1 = .grid 1 (xs.set i [.row e2 (ys.take len)])) ∨ (o1 ≠ o ∧ o1 ≠ o' ∧ objs[o1]? = some (v1, b1)) := by
    intro o1 v1 b1 h
    by_cases e1 : o1 = o'
    · subst e1
      rw [List.getElem?_set_self hlt'] at h
      simp only [Option.some.injEq, Prod.mk.injEq] at h
      exact .inl ⟨rfl, h.2.symm⟩
    · rw [List.getElem?_set_ne (Ne.symm e1)] at h
      rcases set_cases ho h with ⟨rfl, h4⟩ | ⟨hn, h4⟩
      · simp only [Prod.mk.injEq] at h4
        exact .inr (.inl ⟨rfl, h4⟩)
      · exact .inr (.inr ⟨hn, e1, h4⟩)
  have hhas : ∀ {o1 b : Nat}, c'.has o1 b → c.has o1 b ∨ (o1 = o ∧ ∃ base, c.φ o' = some (b, base)) := by
    rintro o1 b (h | ⟨p, base, h⟩)
    · exact .inl (.inl h)
    · by_cases hc : o1 = o ∧ p = i
      · obtain ⟨rfl, rfl⟩ := hc
        rw [hψi] at h
        exact .inr ⟨rfl, base, h⟩
      · simp only [c', if_neg hc] at h
        exact .inl (.inr ⟨p, base, h⟩)
  have hsep : ∀ {b : Nat}, c.has o b → ¬ c.has o' b := fun h1 h2 => hne (hr.inj _ _ _ _ _ _ _ ho rfl ho' (by simp) h1 h2).symm
  have hown : ∀ b, Own c' ((objs.set o (ver, OB.grid 1 (xs.set i [GC.row e2 (ys.take len)]))).set o' (ver', OB.dead)) b → Own c objs b := by
    rintro b ⟨o1, v1, b1, h1, h2, h3⟩
    rcases hobs h1 with ⟨_, rfl⟩ | ⟨rfl, _, _⟩ | ⟨hn, _, h4⟩
    · cases h2
    · rcases hhas h3 with h3 | ⟨_, base, h3⟩
      · exact .mk' ho rfl h3
      · exact .of ho' rfl h3
    · rcases hhas h3 with h3 | ⟨h3, _⟩
      · exact .mk' h4 h2 h3
      · exact (hn h3).elim
  have hE : Ext objs.length c objs w c' ((objs.set o (ver, OB.grid 1 (xs.set i [GC.row e2 (ys.take len)]))).set o' (ver', OB.dead)) (w.setRow b0 (putRow' cs0 (base0 + i) [u0])) := by
    refine ⟨by rw [setRow_size]; exact Nat.le_refl _, rfl, rfl, rfl, fun k _ hno => setRow_other w b0 k _ (fun e => hno (e ▸ .of ho rfl g1)), fun k ks U hk => ?_, fun b hb => .inl (hown b hb), fun _ h => h, fun _ h => .inl h, fun o1 cur bd _ h1 => ?_⟩
    · by_cases e : k = b0
      · subst e
        rw [g2] at hk
        simp only [Option.some.injEq, Obj.cells.injEq, and_true] at hk
        obtain ⟨rfl, rfl⟩ := hk
        exact ⟨_, setRow_heap w k cs0 _ T0 (0, 0) g2, size_putRow' hfit⟩
      · exact ⟨ks, (setRow_other w b0 k _ e).trans hk, rfl⟩
    · by_cases e1 : o1 = o'
      · subst e1
        rw [ho'] at h1
        simp only [Option.some.injEq, Prod.mk.injEq] at h1
        exact ⟨ver', .dead, by rw [List.getElem?_set_self hlt'], by omega, fun _ h => (h rfl).elim⟩
      · by_cases e2' : o1 = o
        · subst e2'
          rw [ho] at h1
          simp only [Option.some.injEq, Prod.mk.injEq] at h1
          obtain ⟨rfl, rfl⟩ := h1
          refine ⟨ver, _, by rw [List.getElem?_set_ne (Ne.symm e1), getElem?_set_self' ho], Nat.le_refl _, fun _ _ => ⟨by simp, rfl, fun p x hp => ?_⟩⟩
          rw [hψp p (fun e => by subst e; rw [hψ0] at hp; cases hp)]
          exact hp
        · exact ⟨cur, bd, by rw [List.getElem?_set_ne (Ne.symm e1), List.getElem?_set_ne (Ne.symm e2')]; exact h1, Nat.le_refl _, fun _ h => ⟨h, rfl, fun p x hp => by rw [hψo o1 p e2']; exact hp⟩⟩
  refine ⟨c', hE, ?_, ?_, fun b hb => by rw [setRow_size]; exact hr.rsize b hb, ?_, fun b hb => hr.oR b (hown b hb)⟩
  · intro o1 v1 b1 h1
    rcases hobs h1 with ⟨_, rfl⟩ | ⟨rfl, rfl, rfl⟩ | ⟨hn, hn', h4⟩
    · exact trivial
    · refine ⟨b0, base0, _, T0, g1, setRow_heap w b0 cs0 _ T0 (0, 0) g2, by rw [List.length_set, size_putRow' hfit]; exact g3, ?_, fun i' j' g hg => ?_, ?_, ?_, ?_⟩
      · intro x hx
        rcases List.mem_or_eq_of_mem_set hx with hx | rfl
        · exact g4 x hx
        · rfl
      · rw [get_putRow' hfit]
        rw [List.getElem?_set] at hg
        by_cases hii : i = i'
        · subst hii
          rw [if_pos rfl, if_pos hil] at hg
          have hj : j' = 0 := by
            cases j' with
            | zero => rfl
            | succ j' => simp at hg
          subst hj
          simp only [Option.bind_some, List.getElem?_cons_zero, Option.some.injEq] at hg
          subst hg
          rw [if_pos (by simp)]
          refine ⟨u0, by simp, ?_⟩
          have hx := hu
          obtain ⟨_, _, hx⟩ := hx
          obtain ⟨a, cp, rfl, k2, _, k4⟩ := hx ⟨_, ho', by simp⟩
          refine ⟨a, cp, by simp; omega, by simp; omega, ?_, fun h0 => ?_⟩
          · intro y hy
            rcases hr.ob _ _ _ ho' with ⟨_, rfl⟩ | ⟨_, _, _, _, _, _, _, q4, _⟩
            · simp at hy
            · exact q4 y (List.mem_of_mem_take hy)
          · obtain ⟨b, base, cs, T, m1, rfl, m3, m4⟩ := k4 h0
            rcases hr.ob _ _ _ ho' with ⟨q1, _⟩ | ⟨b', base', cs', T', q1, q2, q3, q4, q5⟩
            · rw [q1] at m1; cases m1
            rw [m1] at q1
            obtain ⟨rfl, rfl⟩ : b = b' ∧ base = base' := by simpa using q1
            rw [m3] at q2
            simp only [Option.some.injEq, Obj.cells.injEq, and_true] at q2
            obtain ⟨rfl, rfl⟩ := q2
            have hbb : b ≠ b0 := fun e => hsep (e ▸ .inl ⟨_, g1⟩) (.inl ⟨_, m1⟩)
            refine ⟨b, base, cs, T, by rw [Nat.mul_one, Nat.add_zero, hψi]; exact m1, by simp, (setRow_other w b0 b _ hbb).trans m3, by simpa using m4, fun i2 j2 d hd => ?_⟩
            rw [List.getElem?_take] at hd
            split at hd
            · obtain ⟨u, n1, n2⟩ := q5 i2 j2 d hd
              exact ⟨u, n1, hE.rep hr n2⟩
            · simp at hd
        · rw [if_neg hii] at hg
          obtain ⟨u, n1, n2⟩ := g5 i' j' g hg
          have hj : j' = 0 := by
            obtain ⟨x, h1, h2⟩ := Option.bind_eq_some_iff.1 hg
            have := g4 x (List.mem_of_getElem? h1)
            have := (List.getElem?_eq_some_iff.1 h2).1
            omega
          subst hj
          rw [Nat.mul_one, Nat.add_zero] at n1 n2 ⊢
          refine ⟨u, by rw [if_neg (by simp; omega)]; exact n1, n2.keep hE hr (fun x hx => by rw [hψp _ (Ne.symm hii)]; exact hx) (fun b base hb => setRow_other w b0 b _ (g6 _ _ _ hb))⟩
      · intro p b' base' hp
        by_cases e : p = i
        · subst e
          rw [hψi] at hp
          exact fun e => hsep (e ▸ .inl ⟨_, g1⟩) (.inl ⟨_, hp⟩)
        · rw [hψp p e] at hp
          exact g6 p b' base' hp
      · intro p p' b' base' base'' hp hp'
        by_cases e : p = i <;> by_cases e' : p' = i
        · omega
        · subst e
          rw [hψi] at hp
          rw [hψp p' e'] at hp'
          exact (hsep (.inr ⟨_, _, hp'⟩) (.inl ⟨_, hp⟩)).elim
        · subst e'
          rw [hψi] at hp'
          rw [hψp p e] at hp
          exact (hsep (.inr ⟨_, _, hp⟩) (.inl ⟨_, hp'⟩)).elim
        · rw [hψp p e] at hp
          rw [hψp p' e'] at hp'
          exact g7 p p' b' base' base'' hp hp'
      · intro p x hp
        by_cases e : p = i
        · subst e
          exact ⟨_, e2, ys.take len, by rw [Nat.div_one, List.getElem?_set_self hil], by rw [Nat.mod_one]; rfl⟩
        · rw [hψp p e] at hp
          obtain ⟨y, e', zs, h1, h2⟩ := g8 p x hp
          exact ⟨y, e', zs, by rw [List.getElem?_set_ne (by rw [Nat.div_one]; exact Ne.symm e)]; exact h1, h2⟩
    · by_cases hdead : b1 = .dead
      · subst hdead; exact trivial
      refine RelOB.keep hE (Nat.le_refl _) hr rfl (funext fun p => hψo o1 p hn) (fun b hb => setRow_other w b0 b _ ?_) (hr.ob o1 v1 b1 h4)
      rintro rfl
      exact hn (hr.inj _ _ _ _ _ _ _ ho rfl h4 hdead (.inl ⟨_, g1⟩) hb).symm
  · intro o1 o2 v1 v2 b1 b2 b h1 d1 h2 d2 p1 p2
    have f1 : ∃ v x, objs[o1]? = some (v, x) ∧ x.mine = true ∧ o1 ≠ o' := by
      rcases hobs h1 with ⟨_, rfl⟩ | ⟨rfl, _, _⟩ | ⟨_, hn, h4⟩
      · cases d1
      · exact ⟨_, _, ho, rfl, Ne.symm hne⟩
      · exact ⟨_, _, h4, d1, hn⟩
    have f2 : ∃ v x, objs[o2]? = some (v, x) ∧ x ≠ .dead ∧ o2 ≠ o' := by
      rcases hobs h2 with ⟨_, rfl⟩ | ⟨rfl, _, _⟩ | ⟨_, hn, h4⟩
      · exact (d2 rfl).elim
      · exact ⟨_, _, ho, by simp, Ne.symm hne⟩
      · exact ⟨_, _, h4, d2, hn⟩
    obtain ⟨w1, x1, q1, r1, n1⟩ := f1
    obtain ⟨w2, x2, q2, r2, n2⟩ := f2
    rcases hhas p1 with p1' | ⟨rfl, base1, p1'⟩ <;> rcases hhas p2 with p2' | ⟨rfl, base2, p2'⟩
    · exact hr.inj _ _ _ _ _ _ b q1 r1 q2 r2 p1' p2'
    · exact (n1 (hr.inj _ _ _ _ _ _ b q1 r1 ho' (by simp) p1' (.inl ⟨_, p2'⟩))).elim
    · exact (n2 (hr.inj _ _ _ _ _ _ b ho' rfl q2 r2 (.inl ⟨_, p1'⟩) p2').symm).elim
    · rfl
  · intro o1 v1 b1 b h1 d1 p1
    rw [setRow_size]
    rcases hhas p1 with p1' | ⟨rfl, base1, p1'⟩
    · rcases hobs h1 with ⟨_, rfl⟩ | ⟨rfl, _, _⟩ | ⟨_, _, h4⟩
      · exact (d1 rfl).elim
      · exact hr.lsize _ _ _ b ho (by simp) p1'
      · exact hr.lsize _ _ _ b h4 d1 p1'
    · exact hr.lsize _ _ _ b ho' (by simp) (.inl ⟨_, p1'⟩)

theorem run_storeX {P : Program} {t : TypeId} {T : TyI} (hT : TyFacts P t T) {c : Ctx} {objs : Objs} {w : World} {x : CV} {u v : Value} {vs : List CV} {K : Objs → Prop}
    (hr : RelObjs c objs w) (h : storeX T objs x vs K) (hx : RelCV c objs w x u) (hv : RelCs c objs w vs v.cells.toList) :
    ∃ c' w' objs', (Instr.storeAt t u v).run P w = .ok () w' ∧ Ext objs.length c objs w c' objs' w' ∧ RelObjs c' objs' w' ∧ K objs' := by
  have hone := relCs_one hv
  unfold storeX at h
  replace h := chkP_iff.1 h; obtain ⟨hlen, h⟩ := h
  have hsz : v.cells.size = T.size := by have := hv.1; simpa [hlen] using this
  split at h
  · rename_i o ver p e i j
    split at h
    · rename_i v0
      obtain ⟨hok, h⟩ := h
      split at h
      · rename_i d objs1 hfz
        have hT1 : T.size = 1 := by simpa using hlen.symm
        obtain ⟨u0, m1, m2⟩ := hv.2 0 v0 rfl
        obtain ⟨c1, hE1, hr1, hd, _⟩ := run_freezeC hr hfz hok m2
        have hx1 := hE1.relCV (Nat.le_refl _) hr hx
        have hcl : v.cells.toList = [u0] := by
          have hl := hv.1
          match hcl : v.cells.toList, hl with
          | [y], _ => rw [hcl] at m1; simpa using m1
        split at h
        · rename_i e0 xs hob
          replace h := chkP_iff.1 h; obtain ⟨hje, ys, hrow, hlt, hK⟩ := h
          have ho := objAt_some hob
          obtain ⟨b, base, h1, rfl⟩ := hx1.2.2 (live_of_objAt hob (by simp))
          obtain ⟨b0, base0, cs0, T0, g1, g2, g3, g4, g5, g6, g7, g8⟩ := hr1.ob _ _ _ ho
          obtain ⟨uo, r1, a, cp, rfl, k2, k3, k4⟩ := rowAt_rel g4 g5 hrow
          obtain ⟨b', base', cs, T', q1, q2, q3, q4, q5⟩ := k4 (by omega)
          rw [h1] at q1
          obtain ⟨rfl, rfl⟩ : b = b' ∧ base = base' := by simpa using q1
          have hyi : ys[i]? = some ys[i] := List.getElem?_eq_getElem hlt
          have hil : ys[i].length = e := k3 _ (List.getElem_mem hlt)
          have hmul : i * e + e ≤ cp * e := by
            have : (i + 1) * e ≤ cp * e := Nat.mul_le_mul_right e (by omega)
            rwa [Nat.succ_mul] at this
          have hfit : (base + (i * e + j)) + v.cells.toList.length ≤ cs.size := by rw [hcl]; simp; omega
          have hW := write_cells (bd' := .grid e0 (setG e0 xs p (.row e (ys.set i (ys[i].set j d))))) hr1 ho rfl rfl (.inr ⟨p, base, h1⟩) q3 (size_putRow' hfit) fun hE => by
            refine ⟨b0, base0, cs0, T0, g1, (setRow_other w b b0 _ (g6 _ _ _ h1).symm).trans g2, by rw [setG_len]; exact g3, setG_lens g4, fun i' j' g hg => ?_, g6, g7, fun p' x' hx' => setG_row (g8 p' x' hx')⟩
            rcases setG_get g4 hg with ⟨hp, rfl⟩ | ⟨hp, hg⟩
            · rw [hp]
              refine ⟨_, r1, a, cp, ?_, by simpa using k2, ?_, fun _ => ⟨b, base, _, T', h1, q2, setRow_heap w b cs _ T' (0, 0) q3, by rw [size_putRow' hfit]; exact q4, fun i2 j2 d2 hd2 => ?_⟩⟩
              · simp
              · intro y hy
                rcases List.mem_or_eq_of_mem_set hy with hy | rfl
                · exact k3 y hy
                · simp [hil]
              have hvl1 : v.cells.toList.length = 1 := by rw [hcl]; rfl
              rw [get_putRow' hfit]
              rw [List.getElem?_set] at hd2
              by_cases hii : i = i2
              · subst hii
                rw [if_pos rfl, if_pos hlt] at hd2
                simp only [Option.bind_some, List.getElem?_set] at hd2
                by_cases hjj : j = j2
                · subst hjj
                  rw [if_pos rfl, if_pos (by omega)] at hd2
                  obtain rfl := Option.some.inj hd2
                  exact ⟨u0, by rw [if_pos (by omega), hcl]; simp, hE.rep hr1 hd⟩
                · rw [if_neg hjj] at hd2
                  obtain ⟨u', w1, w2⟩ := q5 i j2 d2 (by simp [hyi, hd2])
                  exact ⟨u', by rw [if_neg (by omega)]; exact w1, hE.rep hr1 w2⟩
              · rw [if_neg hii] at hd2
                obtain ⟨u', w1, w2⟩ := q5 i2 j2 d2 hd2
                have hj2 : j2 < e := by
                  cases hyi2 : ys[i2]? with
                  | none => simp [hyi2] at hd2
                  | some y' =>
                    rw [hyi2] at hd2
                    rw [← k3 y' (List.mem_of_getElem? hyi2)]
                    exact (List.getElem?_eq_some_iff.1 hd2).1
                refine ⟨u', ?_, hE.rep hr1 w2⟩
                rw [if_neg, w1]
                intro hc
                apply hii
                rcases Nat.lt_trichotomy i i2 with hl | hl | hl
                · have : (i + 1) * e ≤ i2 * e := Nat.mul_le_mul_right e hl
                  rw [Nat.succ_mul] at this; omega
                · exact hl
                · have : (i2 + 1) * e ≤ i * e := Nat.mul_le_mul_right e hl
                  rw [Nat.succ_mul] at this; omega
            · obtain ⟨u', w1, w2⟩ := g5 i' j' g hg
              refine ⟨u', w1, w2.keep hE hr1 (fun _ h => h) (fun b2 base2 hb2 => setRow_other w b b2 _ ?_)⟩
              rintro rfl
              exact hp (g7 _ _ _ _ _ hb2 h1)
          refine ⟨_, _, _, ?_, hE1.trans hW.1 (hE1.len0), hW.2, hK.all _ hyi⟩
          simp only [Instr.storeAt, Instr.sureAddr, Sem.run_bind, Sem.run_pure, Result.andThen_ok]
          exact hT.run_storeVar q3 hsz (by rw [hT1]; rw [hcl] at hfit; simpa using hfit) hone
        · exact h.elim
      · exact h.elim
    · exact h.elim
  · rename_i o ver off
    split at h
    · rename_i cs hob
      replace h := chkP_iff.1 h; obtain ⟨hle, h⟩ := h
      obtain ⟨b, base, h1, rfl⟩ := hx.2.2 (live_of_objAt hob (by simp))
      have ho := objAt_some hob
      obtain ⟨b', base', cs', T', g1, g2, g3, g4⟩ := hr.ob o ver _ ho
      rw [h1] at g1
      obtain ⟨rfl, rfl⟩ : b = b' ∧ base = base' := by simpa using g1
      have hfit : (base + off) + v.cells.toList.length ≤ cs'.size := by simp [hsz]; omega
      have hW := write_cells (bd' := .box (setCells cs off vs)) hr ho rfl rfl (c.has_of h1) g2 (size_putRow' hfit) fun hE => by
        refine ⟨b, base, _, T', h1, setRow_heap w b cs' _ T' (0, 0) g2, by rw [length_setCells, size_putRow' hfit]; exact g3, fun i y hy => ?_⟩
        rw [get_setCells _ _ _ _ (by omega)] at hy
        rw [get_putRow' hfit]
        have hvl : v.cells.toList.length = vs.length := hv.1
        by_cases hc : off ≤ i ∧ i < off + vs.length
        · rw [if_pos hc] at hy
          obtain ⟨u', k1, k2⟩ := hv.2 _ _ hy
          refine ⟨u', ?_, hE.relCV (Nat.le_refl _) hr k2⟩
          rw [if_pos (by omega), ← k1]; congr 1; omega
        · rw [if_neg hc] at hy
          obtain ⟨u', k1, k2⟩ := g4 _ _ hy
          refine ⟨u', ?_, hE.relCV (Nat.le_refl _) hr k2⟩
          rw [if_neg (by omega), k1]
      refine ⟨_, _, _, ?_, hW.1, hW.2, h⟩
      simp only [Instr.storeAt, Instr.sureAddr, Sem.run_bind, Sem.run_pure, Result.andThen_ok]
      exact hT.run_storeVar g2 hsz (by simpa [hsz] using hfit) hone
    · exact h.elim
  · rename_i o ver e i j
    split at h
    · rename_i e' xs ds hob hds
      replace h := chkP_iff.1 h; obtain ⟨rfl, h⟩ := h
      replace h := chkP_iff.1 h; obtain ⟨hje, hlt, h⟩ := h
      obtain ⟨b, base, h1, rfl⟩ := hx.2.2 (live_of_objAt hob (by simp))
      have ho := objAt_some hob
      rcases hr.ob o ver _ ho with ⟨g1, _⟩ | ⟨b', base', cs', T', g1, g2, g3, g4, g5⟩
      · rw [h1] at g1; cases g1
      · rw [h1] at g1
        obtain ⟨rfl, rfl⟩ : b = b' ∧ base = base' := by simpa using g1
        have hxi : xs[i]? = some xs[i] := List.getElem?_eq_getElem hlt
        obtain ⟨hdl, hdc⟩ := dcsOf_spec hds
        have hil : xs[i].length = e := g4 _ (List.getElem_mem hlt)
        have hK : K (objs.set o (ver, .arr e (xs.set i (setDC xs[i] j ds)))) := by
          split at h
          · rename_i hbe
            have hbe' := Nat.eq_of_beq_eq_true hbe
            rw [setDC_whole (by omega) (by omega)]
            exact h
          · exact h.all _ hxi
        have hmul : i * e + e ≤ xs.length * e := by
          have : (i + 1) * e ≤ xs.length * e := Nat.mul_le_mul_right e hlt
          rwa [Nat.succ_mul] at this
        have hvl : v.cells.toList.length = vs.length := hv.1
        have hfit : (base + (i * e + j)) + v.cells.toList.length ≤ cs'.size := by simp [hsz]; omega
        have hW := write_cells (bd' := .arr e (xs.set i (setDC xs[i] j ds))) hr ho rfl rfl (c.has_of h1) g2 (size_putRow' hfit) fun hE => by
          refine .inr ⟨b, base, _, T', h1, setRow_heap w b cs' _ T' (0, 0) g2, by rw [List.length_set, size_putRow' hfit]; exact g3, ?_, ?_⟩
          · intro x hx
            rcases List.mem_or_eq_of_mem_set hx with hx | rfl
            · exact g4 x hx
            · rw [length_setDC, hil]
          · intro i' j' d hd
            rw [List.getElem?_set] at hd
            rw [get_putRow' hfit]
            by_cases hii : i = i'
            · subst hii
              rw [if_pos rfl, if_pos hlt] at hd
              simp only [Option.bind_some] at hd
              rw [get_setDC _ _ _ _ (by omega)] at hd
              by_cases hc : j ≤ j' ∧ j' < j + ds.length
              · rw [if_pos hc] at hd
                obtain ⟨d', k1, k2⟩ := hdc (j' - j) (vs[j' - j]'(by omega)) (List.getElem?_eq_getElem (by omega))
                rw [k1] at hd
                obtain rfl := Option.some.inj hd
                obtain ⟨u', m1, m2⟩ := hv.2 (j' - j) _ (List.getElem?_eq_getElem (by omega))
                refine ⟨u', ?_, hE.rep hr (rep_dcOf k2 m2)⟩
                rw [if_pos (by omega), ← m1]; congr 1; omega
              · rw [if_neg hc] at hd
                obtain ⟨u', m1, m2⟩ := g5 i j' d (by simp [hxi, hd])
                refine ⟨u', ?_, hE.rep hr m2⟩
                rw [if_neg (by omega), m1]
            · rw [if_neg hii] at hd
              obtain ⟨u', m1, m2⟩ := g5 i' j' d hd
              have hj' : j' < e := by
                cases hxi' : xs[i']? with
                | none => simp [hxi'] at hd
                | some x' =>
                  rw [hxi'] at hd
                  have := g4 x' (List.mem_of_getElem? hxi')
                  rw [← this]
                  exact (List.getElem?_eq_some_iff.1 hd).1
              refine ⟨u', ?_, hE.rep hr m2⟩
              rw [if_neg, m1]
              intro hc
              apply hii
              have a1 : i * e + j ≤ i' * e + j' := by omega
              have a2 : i' * e + j' < i * e + e := by omega
              rcases Nat.lt_trichotomy i i' with hl | hl | hl
              · have : (i + 1) * e ≤ i' * e := Nat.mul_le_mul_right e hl
                rw [Nat.succ_mul] at this; omega
              · exact hl
              · have : (i' + 1) * e ≤ i * e := Nat.mul_le_mul_right e hl
                rw [Nat.succ_mul] at this; omega
        refine ⟨_, _, _, ?_, hW.1, hW.2, hK⟩
        simp only [Instr.storeAt, Instr.sureAddr, Sem.run_bind, Sem.run_pure, Result.andThen_ok]
        exact hT.run_storeVar g2 hsz (by simpa [hsz] using hfit) hone
    · rename_i e' xs hob
      split at h
      · rename_i d
        replace h := chkP_iff.1 h; obtain ⟨⟨rfl, hje⟩, hlt, h⟩ := h
        have hxi : xs[i]? = some xs[i] := List.getElem?_eq_getElem hlt
        obtain ⟨hgd, hK⟩ := h.all _ hxi
        have ho := objAt_some hob
        obtain ⟨b, base, h1, rfl⟩ := hx.2.2 (live_of_objAt hob (by simp))
        obtain ⟨b0, base0, cs0, T0, g1, g2, g3, g4, g5, g6, g7, g8⟩ := hr.ob _ _ _ ho
        rw [h1] at g1
        obtain ⟨rfl, rfl⟩ : b = b0 ∧ base = base0 := by simpa using g1
        have hT1 : T.size = 1 := by simpa using hlen.symm
        obtain ⟨u0, m1, m2⟩ := hv.2 0 _ rfl
        have hcl : v.cells.toList = [u0] := by
          have hl := hv.1
          match hcl : v.cells.toList, hl with
          | [y], _ => rw [hcl] at m1; simpa using m1
        have hmul : (i + 1) * e ≤ xs.length * e := Nat.mul_le_mul_right e hlt
        rw [Nat.succ_mul] at hmul
        have hfit : (base + (i * e + j)) + v.cells.toList.length ≤ cs0.size := by rw [hcl]; simp; omega
        have he0 : 0 < e := by omega
        have hdiv : (i * e + j) / e = i := by rw [Nat.mul_comm, Nat.mul_add_div he0, Nat.div_eq_of_lt hje, Nat.add_zero]
        have hmod : (i * e + j) % e = j := by rw [Nat.mul_comm, Nat.mul_add_mod, Nat.mod_eq_of_lt hje]
        have hψ0 : ∀ x, c.ψ o (i * e + j) ≠ some x := by
          intro x hx'
          obtain ⟨y, e', zs, k1, k2⟩ := g8 _ _ hx'
          rw [hdiv, hxi] at k1
          obtain rfl := Option.some.inj k1
          rw [hmod] at k2
          unfold isGD at hgd
          rw [k2] at hgd
          cases hgd
        have hset : xs.set i (xs[i].set j (.d d)) = setG e xs (i * e + j) (.d d) := by
          unfold setG
          rw [hdiv, hmod, hxi]
        rw [hset] at hK
        have hW := write_cells (bd' := .grid e (setG e xs (i * e + j) (.d d))) hr ho rfl rfl (c.has_of h1) g2 (size_putRow' hfit) fun hE => by
          refine ⟨b, base, _, T0, h1, setRow_heap w b cs0 _ T0 (0, 0) g2, by rw [setG_len, size_putRow' hfit]; exact g3, setG_lens g4, fun i' j' g hg => ?_, g6, g7, fun p' x' hx' => ?_⟩
          · rw [get_putRow' hfit]
            rcases setG_get g4 hg with ⟨hp, rfl⟩ | ⟨hp, hg⟩
            · rw [hp, if_pos (by rw [hcl]; simp)]
              exact ⟨u0, by rw [hcl]; simp, hE.rep hr m2⟩
            · obtain ⟨u', w1, w2⟩ := g5 i' j' g hg
              exact ⟨u', by rw [if_neg (by rw [hcl]; simp; omega)]; exact w1, w2.keep hE hr (fun _ h => h) (fun b2 base2 hb2 => setRow_other w b b2 _ (g6 _ _ _ hb2))⟩
          · obtain ⟨y, e', zs, k1, k2⟩ := g8 _ _ hx'
            unfold setG
            rw [hdiv, hmod, hxi]
            dsimp only
            by_cases hi : i = p' / e
            · have hj : j ≠ p' % e := by
                rintro rfl
                refine hψ0 x' ?_
                rw [hi, Nat.mul_comm, Nat.div_add_mod]
                exact hx'
              rw [← hi, hxi] at k1
              obtain rfl := Option.some.inj k1
              exact ⟨_, e', zs, by rw [← hi, List.getElem?_set_self hlt], by rw [List.getElem?_set_ne hj]; exact k2⟩
            · exact ⟨y, e', zs, by rw [List.getElem?_set_ne hi]; exact k1, k2⟩
        refine ⟨_, _, _, ?_, hW.1, hW.2, hK⟩
        simp only [Instr.storeAt, Instr.sureAddr, Sem.run_bind, Sem.run_pure, Result.andThen_ok]
        exact hT.run_storeVar g2 hsz (by rw [hT1]; rw [hcl] at hfit; simpa using hfit) hone
      · rename_i o' ver' e2 off' len' cap
        split at h
        · rename_i e3 ys hob'
          replace h := chkP_iff.1 h; obtain ⟨hne, h⟩ := h
          replace h := chkP_iff.1 h; obtain ⟨⟨he3, hoff⟩, h⟩ := h
          replace h := chkP_iff.1 h; obtain ⟨⟨hee, he1, hj⟩, hlt, hle, h⟩ := h
          subst he3 hoff hee he1 hj
          have hxi : xs[i]? = some xs[i] := List.getElem?_eq_getElem hlt
          obtain ⟨hnil, hK⟩ := h.all _ hxi
          rw [hnil] at hxi
          have ho := objAt_some hob
          obtain ⟨b, base, h1, rfl⟩ := hx.2.2 (live_of_objAt hob (by simp))
          obtain ⟨b0, base0, cs0, T0, g1, g2, g3, _⟩ := hr.ob _ _ _ ho
          rw [h1] at g1
          obtain ⟨rfl, rfl⟩ : b = b0 ∧ base = base0 := by simpa using g1
          have hT1 : T.size = 1 := by simpa using hlen.symm
          obtain ⟨u0, m1, m2⟩ := hv.2 0 _ rfl
          have hcl : v.cells.toList = [u0] := by
            have hl := hv.1
            match hcl : v.cells.toList, hl with
            | [y], _ => rw [hcl] at m1; simpa using m1
          obtain ⟨c', hE, hr'⟩ := absorb_ok hr ho (objAt_some hob') hne hxi hle m2 h1 g2
          refine ⟨c', _, _, ?_, hE, hr', hK⟩
          simp only [Instr.storeAt, Instr.sureAddr, Sem.run_bind, Sem.run_pure, Result.andThen_ok, Nat.mul_one, Nat.add_zero]
          rw [← hcl]
          exact hT.run_storeVar g2 hsz (by omega) hone
        · exact h.elim
      · exact h.elim
    · exact h.elim
  · exact h.elim

end Go.Proofs.Ytmfdkjjhdjkgpaa

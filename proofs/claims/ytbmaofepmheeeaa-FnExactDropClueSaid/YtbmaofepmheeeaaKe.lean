/- The executor is sound: what a store, a new block, a new object make of the objects. -/
import Derived.Test.YtbmaofepmheeeaaKd
namespace Go.Proofs.Ytbmaofepmheeeaa
open Go Go.RowKit

theorem Own.mk' {c : Ctx} {objs : Objs} {o ver b : Nat} {bd : OB} (h : objs[o]? = some (ver, bd)) (hb : bd.mine = true) (hp : c.has o b) : Own c objs b := ⟨o, ver, bd, h, hb, hp⟩

theorem Own.of {c : Ctx} {objs : Objs} {o ver b base : Nat} {bd : OB} (h : objs[o]? = some (ver, bd)) (hb : bd.mine = true) (hp : c.φ o = some (b, base)) : Own c objs b := ⟨o, ver, bd, h, hb, .inl ⟨base, hp⟩⟩

theorem RelGC.keep {n : Nat} {c c' : Ctx} {objs objs' : Objs} {w w' : World} (h : Ext n c objs w c' objs' w') (hr : RelObjs c objs w) {o p : Nat} {g : GC} {u : Value}
    (hψ : ∀ x, c.ψ o p = some x → c'.ψ o p = some x) (hb : ∀ b base, c.ψ o p = some (b, base) → w'.heap[b]? = w.heap[b]?) (ho : RelGC c w o p g u) : RelGC c' w' o p g u := by
  cases g with
  | d x => exact h.rep hr ho
  | row e ys =>
    obtain ⟨a, cp, rfl, h1, h2, h3⟩ := ho
    refine ⟨a, cp, rfl, h1, h2, fun h0 => ?_⟩
    obtain ⟨b, base, cs, T, k1, k2, k3, k4, k5⟩ := h3 h0
    refine ⟨b, base, cs, T, hψ _ k1, k2, (hb _ _ k1).trans k3, k4, fun i j d hd => ?_⟩
    obtain ⟨u, m1, m2⟩ := k5 i j d hd
    exact ⟨u, m1, h.rep hr m2⟩

theorem RepDV.keep {n : Nat} {c c' : Ctx} {objs objs' : Objs} {w w' : World} (h : Ext n c objs w c' objs' w') (hr : RelObjs c objs w) {d : DV} {u : Value} (ho : RepDV w c.R d u) : RepDV w' c'.R d u := by
  cases d with
  | c x => exact h.rep hr ho
  | agg xs =>
    obtain ⟨vs, h1, h2, h3⟩ := ho
    refine ⟨vs, h1, h2, fun i x hx => ?_⟩
    obtain ⟨u, k1, k2⟩ := h3 i x hx
    exact ⟨u, k1, h.rep hr k2⟩

/-- An object whose block stays stays what it is. -/
theorem RelOB.keep {n : Nat} {c c' : Ctx} {objs objs' : Objs} {w w' : World} (h : Ext n c objs w c' objs' w') (hn : objs.length ≤ n) (hr : RelObjs c objs w) {o : Nat} {bd : OB}
    (hφ : c'.φ o = c.φ o) (hψ : c'.ψ o = c.ψ o) (hb : ∀ b, c.has o b → w'.heap[b]? = w.heap[b]?) (ho : RelOB c objs w o bd) : RelOB c' objs' w' o bd := by
  induction bd with
  | dead => exact trivial
  | fro r b ih => exact ⟨ih ho.1, fun hr' k hk => h.rup k (ho.2 hr' k (by unfold Ctx.has at hk ⊢; rw [hφ, hψ] at hk; exact hk))⟩
  | grid e xs =>
    obtain ⟨b, base, cs, T, h1, h2, h3, h4, h5, h6, h7⟩ := ho
    refine ⟨b, base, cs, T, hφ.trans h1, (hb b (.inl ⟨base, h1⟩)).trans h2, h3, h4, fun i j g hg => ?_, by rw [hψ]; exact h6, by rw [hψ]; exact h7⟩
    obtain ⟨u, k1, k2⟩ := h5 i j g hg
    exact ⟨u, k1, k2.keep h hr (fun x hx => by rw [hψ]; exact hx) (fun b' base' hb' => hb b' (.inr ⟨_, _, hb'⟩))⟩
  | map n es =>
    obtain ⟨b, base, ents, clock, h1, h2, h3, h5, h6, h4⟩ := ho
    refine ⟨b, base, ents, clock, hφ.trans h1, (hb b (.inl ⟨base, h1⟩)).trans h2, h3, h5, h6, fun i k v hi => ?_⟩
    obtain ⟨en, k1, k2, k3⟩ := h4 i k v hi
    exact ⟨en, k1, k2, k3.keep h hr⟩
  | box xs =>
    obtain ⟨b, base, cs, T, h1, h2, h3, h4⟩ := ho
    refine ⟨b, base, cs, T, hφ.trans h1, (hb b (.inl ⟨base, h1⟩)).trans h2, h3, fun i x hx => ?_⟩
    obtain ⟨u, k1, k2⟩ := h4 i x hx
    exact ⟨u, k1, h.relCV hn hr k2⟩
  | arr e xs =>
    rcases ho with ⟨h1, h2⟩ | ⟨b, base, cs, T, h1, h2, h3, h4, h5⟩
    · exact .inl ⟨hφ.trans h1, h2⟩
    · refine .inr ⟨b, base, cs, T, hφ.trans h1, (hb b (.inl ⟨base, h1⟩)).trans h2, h3, h4, fun i j d hd => ?_⟩
      obtain ⟨u, k1, k2⟩ := h5 i j d hd
      exact ⟨u, k1, h.rep hr k2⟩

theorem setRow_size (w : World) (g : Nat) (cs : Array Value) : (w.setRow g cs).heap.size = w.heap.size := by simp [World.setRow]

theorem getElem?_set_self' {objs : Objs} {o : Nat} {x y : Nat × OB} (h : objs[o]? = some x) : (objs.set o y)[o]? = some y := by
  have := (List.getElem?_eq_some_iff.1 h).1
  simp [this]

theorem set_cases {objs : Objs} {o o' : Nat} {x y z : Nat × OB} (h : objs[o]? = some x) (hz : (objs.set o y)[o']? = some z) : (o' = o ∧ z = y) ∨ (o' ≠ o ∧ objs[o']? = some z) := by
  by_cases e : o' = o
  · subst e
    rw [getElem?_set_self' h] at hz
    exact .inl ⟨rfl, (Option.some.inj hz).symm⟩
  · rw [List.getElem?_set_ne (Ne.symm e)] at hz
    exact .inr ⟨e, hz⟩

/-- What a change in one of the call's own blocks makes of the rest. -/
theorem write_gen {c : Ctx} {objs : Objs} {w w' : World} {o ver b : Nat} {bd bd' : OB} (hr : RelObjs c objs w)
    (ho : objs[o]? = some (ver, bd)) (hd : bd.mine = true) (hd' : bd'.mine = true) (hφ : c.has o b) (hs : w'.heap.size = w.heap.size) (ht : w'.tape = w.tape) (hos : w'.os = w.os) (hout : w'.output = w.output)
    (hkeep : ∀ k : Nat, k ≠ b → w'.heap[k]? = w.heap[k]?) (hshape : ∀ cs T, w.heap[b]? = some (Obj.cells cs T (0, 0)) → ∃ cs', w'.heap[b]? = some (Obj.cells cs' T (0, 0)) ∧ cs'.size = cs.size)
    (hn : Ext objs.length c objs w c (objs.set o (ver, bd')) w' → RelOB c (objs.set o (ver, bd')) w' o bd') :
    Ext objs.length c objs w c (objs.set o (ver, bd')) w' ∧ RelObjs c (objs.set o (ver, bd')) w' := by
  have hown : ∀ k, Own c (objs.set o (ver, bd')) k → Own c objs k := by
    rintro k ⟨o', ver', bd2, h1, h2, h3⟩
    rcases set_cases ho h1 with ⟨rfl, h4⟩ | ⟨_, h4⟩
    · exact .mk' ho hd h3
    · exact .mk' h4 h2 h3
  have hE : Ext objs.length c objs w c (objs.set o (ver, bd')) w' := by
    refine ⟨by omega, ht, hos, hout, ?_, ?_, fun k hk => .inl (hown k hk), fun _ h => h, fun _ h => .inl h, ?_⟩
    · intro k hk hno
      exact hkeep k (fun e => hno (e ▸ .mk' ho hd hφ))
    · intro k ks U hk
      by_cases e : k = b
      · subst e; exact hshape ks U hk
      · exact ⟨ks, (hkeep k e).trans hk, rfl⟩
    · intro o' cur bd2 _ h1
      by_cases e : o' = o
      · subst e
        rw [ho] at h1
        obtain ⟨rfl, rfl⟩ : ver = cur ∧ bd = bd2 := by simpa using h1
        exact ⟨_, _, getElem?_set_self' ho, Nat.le_refl _, fun _ _ => ⟨OB.mine_live hd, rfl, fun _ _ h => h⟩⟩
      · exact ⟨cur, bd2, by rw [List.getElem?_set_ne (Ne.symm e)]; exact h1, Nat.le_refl _, fun _ h => ⟨h, rfl, fun _ _ h => h⟩⟩
  refine ⟨hE, ?_, ?_, ?_, ?_, ?_⟩
  · intro o' ver' bd2 h1
    rcases set_cases ho h1 with ⟨rfl, h4⟩ | ⟨hne, h4⟩
    · obtain ⟨rfl, rfl⟩ : ver' = ver ∧ bd2 = bd' := by simpa using h4
      exact hn hE
    · by_cases hdead : bd2 = .dead
      · subst hdead; exact trivial
      refine RelOB.keep hE (Nat.le_refl _) hr rfl rfl (fun b2 hp => hkeep b2 ?_) (hr.ob o' ver' bd2 h4)
      rintro rfl
      exact hne (hr.inj o o' ver ver' bd bd2 b2 ho hd h4 hdead hφ hp).symm
  · intro o1 o2 v1 v2 b1 b2 k h1 h2 h3 h4 h5 h6
    have k1 : ∃ v x, objs[o1]? = some (v, x) ∧ x.mine = true := by
      rcases set_cases ho h1 with ⟨rfl, _⟩ | ⟨_, h⟩
      · exact ⟨_, _, ho, hd⟩
      · exact ⟨_, _, h, h2⟩
    have k2 : ∃ v x, objs[o2]? = some (v, x) ∧ x ≠ .dead := by
      rcases set_cases ho h3 with ⟨rfl, _⟩ | ⟨_, h⟩
      · exact ⟨_, _, ho, OB.mine_live hd⟩
      · exact ⟨_, _, h, h4⟩
    obtain ⟨w1, x1, p1, q1⟩ := k1
    obtain ⟨w2, x2, p2, q2⟩ := k2
    exact hr.inj o1 o2 w1 w2 x1 x2 k p1 q1 p2 q2 h5 h6
  · intro k hk
    rw [hs]
    exact hr.rsize k hk
  · intro o' ver' bd2 k h1 h2 h3
    rw [hs]
    rcases set_cases ho h1 with ⟨rfl, h4⟩ | ⟨_, h4⟩
    · exact hr.lsize _ _ _ k ho (OB.mine_live hd) h3
    · exact hr.lsize _ _ _ k h4 h2 h3
  · exact fun k hk => hr.oR k (hown k hk)

theorem write_cells {c : Ctx} {objs : Objs} {w : World} {o ver b : Nat} {bd bd' : OB} {cs cs' : Array Value} {T : TypeId} (hr : RelObjs c objs w)
    (ho : objs[o]? = some (ver, bd)) (hd : bd.mine = true) (hd' : bd'.mine = true) (hφ : c.has o b) (hb : w.heap[b]? = some (.cells cs T (0, 0))) (hs : cs'.size = cs.size)
    (hn : Ext objs.length c objs w c (objs.set o (ver, bd')) (w.setRow b cs') → RelOB c (objs.set o (ver, bd')) (w.setRow b cs') o bd') :
    Ext objs.length c objs w c (objs.set o (ver, bd')) (w.setRow b cs') ∧ RelObjs c (objs.set o (ver, bd')) (w.setRow b cs') := by
  refine write_gen hr ho hd hd' hφ (setRow_size ..) rfl rfl rfl (fun k hk => setRow_other w b k cs' hk) (fun ks U hk => ?_) hn
  rw [hb] at hk
  simp only [Option.some.injEq, Obj.cells.injEq, and_true] at hk
  obtain ⟨rfl, rfl⟩ := hk
  exact ⟨cs', setRow_heap w b cs cs' T (0, 0) hb, hs⟩

theorem length_setCells (vs : List CV) : ∀ (cs : List CV) (off : Nat), (setCells cs off vs).length = cs.length := by
  induction vs with
  | nil => intros; rfl
  | cons v r ih => intro cs off; simp [setCells, ih]

theorem get_setCells (vs : List CV) : ∀ (cs : List CV) (off i : Nat), off + vs.length ≤ cs.length →
    (setCells cs off vs)[i]? = if off ≤ i ∧ i < off + vs.length then vs[i - off]? else cs[i]? := by
  induction vs with
  | nil => intro cs off i _; simp [setCells]; omega
  | cons v r ih =>
    intro cs off i h
    simp only [List.length_cons] at h
    rw [setCells, ih _ _ _ (by simp; omega), List.getElem?_set]
    simp only [List.length_cons]
    by_cases h1 : off = i
    · subst h1
      rw [if_neg (by omega), if_pos rfl, if_pos (by omega), if_pos ⟨by omega, by omega⟩]
      simp
    · by_cases h2 : off ≤ i ∧ i < off + (r.length + 1)
      · rw [if_pos (by omega), if_pos h2, show i - off = (i - (off + 1)) + 1 by omega]
        simp
      · rw [if_neg (by omega), if_neg h2, if_neg h1]

theorem length_setDC (vs : List DC) : ∀ (cs : List DC) (off : Nat), (setDC cs off vs).length = cs.length := by
  induction vs with
  | nil => intros; rfl
  | cons v r ih => intro cs off; simp [setDC, ih]

theorem get_setDC (vs : List DC) : ∀ (cs : List DC) (off i : Nat), off + vs.length ≤ cs.length →
    (setDC cs off vs)[i]? = if off ≤ i ∧ i < off + vs.length then vs[i - off]? else cs[i]? := by
  induction vs with
  | nil => intro cs off i _; simp [setDC]; omega
  | cons v r ih =>
    intro cs off i h
    simp only [List.length_cons] at h
    rw [setDC, ih _ _ _ (by simp; omega), List.getElem?_set]
    simp only [List.length_cons]
    by_cases h1 : off = i
    · subst h1
      rw [if_neg (by omega), if_pos rfl, if_pos (by omega), if_pos ⟨by omega, by omega⟩]
      simp
    · by_cases h2 : off ≤ i ∧ i < off + (r.length + 1)
      · rw [if_pos (by omega), if_pos h2, show i - off = (i - (off + 1)) + 1 by omega]
        simp
      · rw [if_neg (by omega), if_neg h2, if_neg h1]

/-- A row of cells with some of them written. -/
def putRow' (cs : Array Value) (o : Nat) (vs : List Value) : Array Value := (cs.toList.take o ++ vs ++ cs.toList.drop (o + vs.length)).toArray

theorem size_putRow' {cs : Array Value} {o : Nat} {vs : List Value} (h : o + vs.length ≤ cs.size) : (putRow' cs o vs).size = cs.size := by
  simp [putRow']; omega

theorem get_putRow' {cs : Array Value} {o : Nat} {vs : List Value} (h : o + vs.length ≤ cs.size) (i : Nat) :
    (putRow' cs o vs)[i]? = if o ≤ i ∧ i < o + vs.length then vs[i - o]? else cs[i]? := by
  simp only [putRow', List.getElem?_toArray, List.append_assoc]
  have hl : (cs.toList.take o).length = o := by simp; omega
  by_cases h1 : i < o
  · rw [List.getElem?_append_left (by omega), if_neg (by omega), List.getElem?_take, if_pos h1]
    simp
  · rw [List.getElem?_append_right (by omega), hl]
    by_cases h2 : i < o + vs.length
    · rw [List.getElem?_append_left (by omega), if_pos ⟨by omega, h2⟩]
    · rw [List.getElem?_append_right (by omega), if_neg (by omega), List.getElem?_drop]
      rw [Array.getElem?_toList]
      congr 1; omega

theorem run_storeCells_put {P : Program} {w : World} {b o : Nat} {cs : Array Value} {T : TypeId} (hb : w.heap[b]? = some (.cells cs T (0, 0))) (vs : List Value) (h : o + vs.length ≤ cs.size)
    (h1 : ∀ v ∈ vs, v.oneCell' = true) : (storeCells ⟨b, o, none⟩ vs).run P w = .ok () (w.setRow b (putRow' cs o vs)) := by
  have := run_storeCells_at (P := P) b o T vs 0 cs w hb (by simpa using h) h1
  simpa [putRow'] using this

theorem TyFacts.run_storeVar {P : Program} {t : TypeId} {T : TyI} (h : TyFacts P t T) {w : World} {b o : Nat} {cs : Array Value} {U : TypeId} {v : Value}
    (hb : w.heap[b]? = some (.cells cs U (0, 0))) (hs : v.cells.size = T.size) (hf : o + T.size ≤ cs.size) (h1 : ∀ x ∈ v.cells.toList, x.oneCell' = true) :
    (storeVar t ⟨b, o, none⟩ v).run P w = .ok () (w.setRow b (putRow' cs o v.cells.toList)) := by
  have hst := run_storeCells_put (P := P) hb v.cells.toList (by simpa [hs] using hf) h1
  simp [storeVar, h.run_sizeOf, hs, hst]

theorem relCs_one {c : Ctx} {objs : Objs} {w : World} {xs : List CV} {us : List Value} (h : RelCs c objs w xs us) : ∀ u ∈ us, u.oneCell' = true := by
  intro u hu
  obtain ⟨i, hi, rfl⟩ := List.mem_iff_getElem.1 hu
  obtain ⟨u', h1, h2⟩ := h.2 i (xs[i]'(by rw [← h.1]; exact hi)) (List.getElem?_eq_getElem _)
  rw [List.getElem?_eq_getElem hi] at h1
  obtain rfl := Option.some.inj h1
  exact h2.one

theorem dcsOf_spec : ∀ {vs : List CV} {ds : List DC}, dcsOf vs = some ds → ds.length = vs.length ∧ ∀ (i : Nat) x, vs[i]? = some x → ∃ d, ds[i]? = some d ∧ dcOf x = some d
  | [], ds, h => by obtain rfl := Option.some.inj h; exact ⟨rfl, by simp⟩
  | x :: r, ds, h => by
    unfold dcsOf at h
    split at h
    · rename_i d ds' h1 h2
      obtain rfl := Option.some.inj h
      obtain ⟨k1, k2⟩ := dcsOf_spec h2
      refine ⟨by simp [k1], fun i y hy => ?_⟩
      cases i with
      | zero => simp only [List.getElem?_cons_zero, Option.some.injEq] at hy ⊢; subst hy; exact ⟨d, rfl, h1⟩
      | succ i => simp only [List.getElem?_cons_succ] at hy ⊢; exact k2 i y hy
    · cases h

theorem rep_dcOf {c : Ctx} {objs : Objs} {w : World} {x : CV} {d : DC} {u : Value} (h : dcOf x = some d) (hx : RelCV c objs w x u) : Rep w c.R d u := by
  cases x with
  | d y => obtain rfl := Option.some.inj h; exact hx
  | nilsl => obtain rfl := Option.some.inj h; obtain rfl := hx; exact .v _ rfl
  | _ => cases h

theorem setDC_whole {x ds : List DC} {j : Nat} (hl : ds.length = x.length) (hj : j + ds.length ≤ x.length) : setDC x j ds = ds := by
  obtain rfl : j = 0 := by omega
  apply List.ext_getElem?
  intro i
  rw [get_setDC _ _ _ _ (by omega)]
  by_cases h : i < ds.length
  · rw [if_pos ⟨Nat.zero_le _, by omega⟩]; rfl
  · rw [if_neg (by omega), List.getElem?_eq_none (by omega), List.getElem?_eq_none (by omega)]

/-- An own row as a datum. -/
theorem rep_of_sl {c : Ctx} {objs : Objs} {w : World} {o ver e off len : Nat} {cap : Option Nat} {u : Value} {xs : List (List DC)} {R' : Nat → Prop} (hob : RelOB c objs w o (.arr e xs)) (hlive : Live objs o ver)
    (hx : RelCV c objs w (.sl o ver e off len cap) u) (hol : off + len ≤ xs.length) (hR : ∀ b, c.R b → R' b) (hR2 : ∀ b base, c.φ o = some (b, base) → R' b) : Rep w R' (.list e ((xs.drop off).take len)) u := by
  obtain ⟨_, _, hx⟩ := hx
  obtain ⟨a, cp, rfl, h2, _, h4⟩ := hx hlive
  have hlen : ((xs.drop off).take len).length = len := by simp; omega
  by_cases h0 : len = 0
  · subst h0
    simp only [List.take_zero]
    exact .list e [] a cp (fun _ _ => undef) (by simp) (by simp) (fun i j hi => by simp at hi) (by simp)
  obtain ⟨b, base, cs, T, g1, rfl, g3, g4⟩ := h4 (by omega)
  rcases hob with ⟨q1, _⟩ | ⟨b', base', cs', T', q1, q2, q3, q4, q5⟩
  · rw [q1] at g1; cases g1
  rw [g1] at q1
  obtain ⟨rfl, rfl⟩ : b = b' ∧ base = base' := by simpa using q1
  have hget : ∀ i, i < len → ((xs.drop off).take len)[i]? = xs[off + i]? := by
    intro i hi
    rw [List.getElem?_take, if_pos hi, List.getElem?_drop]
  have hl : ∀ y ∈ (xs.drop off).take len, y.length = e := fun y hy => q4 y (List.mem_of_mem_drop (List.mem_of_mem_take hy))
  have := Rep.list (w := w) (R := R') e ((xs.drop off).take len) (some ⟨b, base + off * e, none⟩) cp (fun i j => (cs'[base + ((off + i) * e + j)]?).getD undef) (by omega) hl
    (fun i j hi hj => by
      rw [hlen] at hi
      refine ⟨b, base + off * e, rfl, hR2 b base g1, ?_⟩
      have hxi : xs[off + i]? = some (xs[off + i]'(by omega)) := List.getElem?_eq_getElem _
      have hxl : (xs[off + i]'(by omega)).length = e := q4 _ (List.getElem_mem _)
      obtain ⟨u, k1, k2⟩ := q5 (off + i) j ((xs[off + i]'(by omega))[j]'(by omega)) (by rw [hxi]; simp)
      rw [cell_of q2, show base + off * e + (i * e + j) = base + ((off + i) * e + j) by rw [Nat.add_mul]; omega, k1]
      rfl)
    (fun i j d hd => by
      have hi : i < len := by
        rcases Nat.lt_or_ge i len with h | h
        · exact h
        · rw [List.getElem?_eq_none (by omega)] at hd; cases hd
      rw [hget i hi] at hd
      obtain ⟨u, k1, k2⟩ := q5 (off + i) j d hd
      rw [k1]
      exact k2.mono hR (fun _ _ => rfl))
  rw [hlen] at this
  exact this

/-- The context in which object o's row is read by all. -/
def Ctx.froze (c : Ctx) (o : Nat) : Ctx := { c with R := fun b => c.R b ∨ c.has o b }

/-- A row of the call's own that nobody will write any more. -/
theorem freeze_ok {c : Ctx} {objs : Objs} {w : World} {o ver e : Nat} {xs : List (List DC)} (hr : RelObjs c objs w) (ho : objs[o]? = some (ver, .arr e xs)) :
    Ext objs.length c objs w (c.froze o) (objs.set o (ver, .fro true (.arr e xs))) w ∧ RelObjs (c.froze o) (objs.set o (ver, .fro true (.arr e xs))) w := by
  have hown : ∀ k, Own (c.froze o) (objs.set o (ver, .fro true (.arr e xs))) k → ∃ o' ver' bd, o' ≠ o ∧ objs[o']? = some (ver', bd) ∧ bd.mine = true ∧ c.has o' k := by
    rintro k ⟨o', ver', bd2, h1, h2, h3⟩
    rcases set_cases ho h1 with ⟨rfl, h4⟩ | ⟨hne, h4⟩
    · simp only [Prod.mk.injEq] at h4; rw [h4.2] at h2; cases h2
    · exact ⟨o', ver', bd2, hne, h4, h2, h3⟩
  have hlive : ∀ {o' ver' : Nat} {bd : OB}, (objs.set o (ver, .fro true (.arr e xs)))[o']? = some (ver', bd) → bd ≠ .dead → ∃ v x, objs[o']? = some (v, x) ∧ x ≠ .dead := by
    intro o' ver' bd h hd
    rcases set_cases ho h with ⟨rfl, _⟩ | ⟨_, h4⟩
    · exact ⟨_, _, ho, by simp⟩
    · exact ⟨_, _, h4, hd⟩
  have hE : Ext objs.length c objs w (c.froze o) (objs.set o (ver, .fro true (.arr e xs))) w := by
    refine ⟨Nat.le_refl _, rfl, rfl, rfl, fun _ _ _ => rfl, fun _ cs _ h => ⟨cs, h, rfl⟩, fun k hk => ?_, fun _ h => .inl h, ?_, ?_⟩
    · obtain ⟨o', ver', bd, _, h1, h2, h3⟩ := hown k hk
      exact .inl (.mk' h1 h2 h3)
    · rintro k (h | h)
      · exact .inl h
      · exact .inr (.inl (.mk' ho rfl h))
    · intro o' cur bd2 _ h1
      by_cases e' : o' = o
      · subst e'
        rw [ho] at h1
        obtain ⟨rfl, rfl⟩ : ver = cur ∧ OB.arr e xs = bd2 := by simpa using h1
        exact ⟨_, _, getElem?_set_self' ho, Nat.le_refl _, fun _ _ => ⟨by simp, rfl, fun _ _ h => h⟩⟩
      · exact ⟨cur, bd2, by rw [List.getElem?_set_ne (Ne.symm e')]; exact h1, Nat.le_refl _, fun _ h => ⟨h, rfl, fun _ _ h => h⟩⟩
  refine ⟨hE, ?_, ?_, ?_, ?_, ?_⟩
  · intro o' ver' bd2 h1
    rcases set_cases ho h1 with ⟨rfl, h4⟩ | ⟨_, h4⟩
    · obtain ⟨rfl, rfl⟩ : ver' = ver ∧ bd2 = .fro true (.arr e xs) := by simpa using h4
      exact ⟨RelOB.keep (bd := .arr e xs) hE (Nat.le_refl _) hr rfl rfl (fun _ _ => rfl) (hr.ob _ _ _ ho), fun _ k hk => .inr hk⟩
    · exact RelOB.keep hE (Nat.le_refl _) hr rfl rfl (fun _ _ => rfl) (hr.ob o' ver' bd2 h4)
  · intro o1 o2 v1 v2 b1 b2 k h1 h2 h3 h4 h5 h6
    have k1 : ∃ v x, objs[o1]? = some (v, x) ∧ x.mine = true := by
      rcases set_cases ho h1 with ⟨rfl, h⟩ | ⟨_, h⟩
      · exact ⟨_, _, ho, rfl⟩
      · exact ⟨_, _, h, h2⟩
    obtain ⟨w1, x1, p1, q1⟩ := k1
    obtain ⟨w2, x2, p2, q2⟩ := hlive h3 h4
    exact hr.inj o1 o2 w1 w2 x1 x2 k p1 q1 p2 q2 h5 h6
  · rintro k (h | h)
    · exact hr.rsize k h
    · exact hr.lsize _ _ _ k ho (by simp) h
  · intro o' ver' bd2 k h1 h2 h3
    obtain ⟨v, x, p1, p2⟩ := hlive h1 h2
    exact hr.lsize _ _ _ k p1 p2 h3
  · intro k hk
    obtain ⟨o', ver', bd, hne, h1, h2, h3⟩ := hown k hk
    rintro (h | h)
    · exact hr.oR k (.mk' h1 h2 h3) h
    · exact hne (hr.inj _ _ _ _ _ _ k h1 h2 ho (by simp) h3 h)

/-- A cell's value as a datum. -/
theorem run_freezeC {c : Ctx} {objs objs' : Objs} {w : World} {x : CV} {d : DC} {u : Value} (hr : RelObjs c objs w) (h : freezeC objs x = some (d, objs')) (hok : freezeOK objs x) (hx : RelCV c objs w x u) :
    ∃ c', Ext objs.length c objs w c' objs' w ∧ RelObjs c' objs' w ∧ Rep w c'.R d u ∧ objs'.length = objs.length := by
  unfold freezeC at h
  split at h
  · simp only [Option.some.injEq, Prod.mk.injEq] at h
    obtain ⟨rfl, rfl⟩ := h
    exact ⟨c, Ext.refl _ _ _ _, hr, hx, rfl⟩
  · simp only [Option.some.injEq, Prod.mk.injEq] at h
    obtain ⟨rfl, rfl⟩ := h
    obtain rfl := hx
    exact ⟨c, Ext.refl _ _ _ _, hr, .v _ rfl, rfl⟩
  · rename_i o ver e off len cap
    split at h
    · rename_i e' xs hob
      split at h
      · rename_i he
        obtain ⟨he1, hpos⟩ := he
        subst he1
        simp only [Option.some.injEq, Prod.mk.injEq] at h
        obtain ⟨rfl, rfl⟩ := h
        have ho := objAt_some hob
        obtain ⟨hE, hr'⟩ := freeze_ok hr ho
        have hol : off + len ≤ xs.length := by simpa [freezeOK, hob] using hok
        exact ⟨_, hE, hr', rep_of_sl (hr.ob _ _ _ ho) (live_of_objAt hob (by simp)) hx hol (fun _ h => .inl h) (fun _ base h => .inr (.inl ⟨base, h⟩)), by simp⟩
      · cases h
    · rename_i e' xs hob
      split at h
      · rename_i he
        obtain ⟨he1, hpos⟩ := he
        subst he1
        simp only [Option.some.injEq, Prod.mk.injEq] at h
        obtain ⟨rfl, rfl⟩ := h
        have ho := objAt_some hob
        have hol : off + len ≤ xs.length := by simpa [freezeOK, hob] using hok
        obtain ⟨h1, h2⟩ := hr.ob _ _ _ ho
        exact ⟨c, Ext.refl _ _ _ _, hr, rep_of_sl h1 (live_of_objAt hob (by simp)) hx hol (fun _ h => h) (fun k base h => h2 rfl k (.inl ⟨base, h⟩)), rfl⟩
      · cases h
    · cases h
  · cases h

theorem Ext.len0 {c c' : Ctx} {objs objs' : Objs} {w w' : World} (h : Ext objs.length c objs w c' objs' w') : objs.length ≤ objs'.length := by
  rcases Nat.eq_zero_or_pos objs.length with h0 | h0
  · omega
  · have hlt : objs.length - 1 < objs.length := by omega
    obtain ⟨cur', bd', h1, _⟩ := h.refs (objs.length - 1) objs[objs.length - 1].1 objs[objs.length - 1].2 hlt (List.getElem?_eq_getElem hlt)
    have := (List.getElem?_eq_some_iff.1 h1).1
    omega

theorem setG_len {e : Nat} {xs : List (List GC)} {p : Nat} {g : GC} : (setG e xs p g).length = xs.length := by
  unfold setG; split <;> simp

theorem setG_lens {e : Nat} {xs : List (List GC)} {p : Nat} {g : GC} (h : ∀ x ∈ xs, x.length = e) : ∀ x ∈ setG e xs p g, x.length = e := by
  unfold setG
  split
  · rename_i x hx
    intro y hy
    rcases List.mem_or_eq_of_mem_set hy with hy | rfl
    · exact h y hy
    · simpa using h x (List.mem_of_getElem? hx)
  · exact h

theorem setG_get {e : Nat} {xs : List (List GC)} {p i j : Nat} {g y : GC} (hl : ∀ x ∈ xs, x.length = e) (h : ((setG e xs p g)[i]?.bind (·[j]?)) = some y) : (i * e + j = p ∧ y = g) ∨ (i * e + j ≠ p ∧ (xs[i]?.bind (·[j]?)) = some y) := by
  have hje : ∀ {x : List GC}, (setG e xs p g)[i]? = some x → x[j]? = some y → j < e := by
    intro x h1 h2
    have := setG_lens (p := p) (g := g) hl x (List.mem_of_getElem? h1)
    rw [← this]
    exact (List.getElem?_eq_some_iff.1 h2).1
  obtain ⟨x, h1, h2⟩ := Option.bind_eq_some_iff.1 h
  have hj := hje h1 h2
  have hdm : (i * e + j) / e = i ∧ (i * e + j) % e = j := by
    rw [Nat.mul_comm]
    exact ⟨by rw [Nat.mul_add_div (by omega), Nat.div_eq_of_lt hj, Nat.add_zero], by rw [Nat.mul_add_mod, Nat.mod_eq_of_lt hj]⟩
  unfold setG at h1
  split at h1
  · rename_i x0 hx0
    rw [List.getElem?_set] at h1
    by_cases hi : p / e = i
    · rw [if_pos hi, if_pos (by rw [hi] at hx0 ⊢; exact (List.getElem?_eq_some_iff.1 hx0).1)] at h1
      obtain rfl := Option.some.inj h1
      rw [List.getElem?_set] at h2
      by_cases hj2 : p % e = j
      · rw [if_pos hj2] at h2
        split at h2
        · refine .inl ⟨?_, (Option.some.inj h2).symm⟩
          rw [← hi, ← hj2, Nat.mul_comm]; exact Nat.div_add_mod p e
        · cases h2
      · rw [if_neg hj2] at h2
        refine .inr ⟨fun hp => hj2 (by rw [← hp]; exact hdm.2), ?_⟩
        rw [← hi, hx0]; exact h2
    · rw [if_neg hi] at h1
      exact .inr ⟨fun hp => hi (by rw [← hp]; exact hdm.1), by rw [h1]; exact h2⟩
  · rename_i hx0
    refine .inr ⟨fun hp => ?_, by rw [h1]; exact h2⟩
    rw [← hp, hdm.1, h1] at hx0; cases hx0

theorem setG_row {e e1 : Nat} {xs : List (List GC)} {p p' : Nat} {zs : List (List DC)} (h : ∃ y e' ys, xs[p' / e]? = some y ∧ y[p' % e]? = some (.row e' ys)) :
    ∃ y e' ys, (setG e xs p (.row e1 zs))[p' / e]? = some y ∧ y[p' % e]? = some (.row e' ys) := by
  obtain ⟨y, e', ys, h1, h2⟩ := h
  unfold setG
  split
  · rename_i x0 hx0
    rw [List.getElem?_set]
    by_cases hi : p / e = p' / e
    · rw [if_pos hi, if_pos (by rw [hi] at hx0 ⊢; exact (List.getElem?_eq_some_iff.1 hx0).1)]
      rw [hi, h1] at hx0
      obtain rfl := Option.some.inj hx0
      by_cases hj : p % e = p' % e
      · exact ⟨_, e1, zs, rfl, by rw [hj, List.getElem?_set_self (List.getElem?_eq_some_iff.1 h2).1]⟩
      · exact ⟨_, e', ys, rfl, by rw [List.getElem?_set_ne hj]; exact h2⟩
    · rw [if_neg hi]
      exact ⟨y, e', ys, h1, h2⟩
  · exact ⟨y, e', ys, h1, h2⟩

/-- A row of the call's own comes into an empty cell of a row of rows. -/
theorem absorb_ok {c : Ctx} {objs : Objs} {w : World} {o ver o' ver' e2 len i b0 base0 : Nat} {cap : Option Nat} {xs : List (List GC)} {ys : List (List DC)} {u0 : Value} {cs0 : Array Value} {T0 : TypeId} (hr : RelObjs c objs w)
    (ho : objs[o]? = some (ver, .grid 1 xs)) (ho' : objs[o']? = some (ver', .arr e2 ys)) (hne : o' ≠ o) (hi : xs[i]? = some [.d (.v (.slice none 0 0))]) (hlen : len ≤ ys.length) (hu : RelCV c objs w (.sl o' ver' e2 0 len cap) u0)
    (g1 : c.φ o = some (b0, base0)) (g2 : w.heap[b0]? = some (.cells cs0 T0 (0, 0))) :
    ∃ c', Ext objs.length c objs w c' ((objs.set o (ver, .grid 1 (xs.set i [.row e2 (ys.take len)]))).set o' (ver', .dead)) (w.setRow b0 (putRow' cs0 (base0 + i) [u0])) ∧
      RelObjs c' ((objs.set o (ver, .grid 1 (xs.set i [.row e2 (ys.take len)]))).set o' (ver', .dead)) (w.setRow b0 (putRow' cs0 (base0 + i) [u0])) := by
  obtain ⟨b0', base0', cs0', T0', q1, q2, g3, g4, g5, g6, g7, g8⟩ := hr.ob _ _ _ ho
  rw [g1] at q1
  obtain ⟨rfl, rfl⟩ : b0 = b0' ∧ base0 = base0' := by simpa using q1
  rw [g2] at q2
  simp only [Option.some.injEq, Obj.cells.injEq, and_true] at q2
  obtain ⟨rfl, rfl⟩ := q2
  have hil : i < xs.length := (List.getElem?_eq_some_iff.1 hi).1
  have hfit : (base0 + i) + [u0].length ≤ cs0.size := by simp; omega
  have hψ0 : c.ψ o i = none := by
    cases hp : c.ψ o i with
    | none => rfl
    | some x =>
      obtain ⟨y, e', zs, h1, h2⟩ := g8 i x hp
      rw [Nat.div_one, hi] at h1
      obtain rfl := Option.some.inj h1
      rw [Nat.mod_one] at h2
      simp at h2
  let c' : Ctx := { c with ψ := fun k p => if k = o ∧ p = i then c.φ o' else c.ψ k p }
  have hψo : ∀ k p, k ≠ o → c'.ψ k p = c.ψ k p := fun k p h => by simp [c', h]
  have hψp : ∀ p, p ≠ i → c'.ψ o p = c.ψ o p := fun p h => by simp [c', h]
  have hψi : c'.ψ o i = c.φ o' := by simp [c']
  have hlt' : o' < (objs.set o (ver, OB.grid 1 (xs.set i [GC.row e2 (ys.take len)]))).length := by simp; exact (List.getElem?_eq_some_iff.1 ho').1
  have hobs : ∀ {o1 v1 : Nat} {b1 : OB}, ((objs.set o (ver, OB.grid 1 (xs.set i [GC.row e2 (ys.take len)]))).set o' (ver', OB.dead))[o1]? = some (v1, b1) →
      (o1 = o' ∧ b1 = .dead) ∨ (o1 = o ∧ v1 = ver ∧ b1 = .grid 1 (xs.set i [.row e2 (ys.take len)])) ∨ (o1 ≠ o ∧ o1 ≠ o' ∧ objs[o1]? = some (v1, b1)) := by
    intro o1 v1 b1 h
    by_cases e1 : o1 = o'
    · subst e1
      rw [List.getElem?_set_self hlt'] at h
      simp only [Option.some.injEq, Prod.mk.injEq] at h
      exact .inl ⟨rfl, h.2.symm⟩
    · rw [List.getElem?_set_ne (Ne.symm e1)] at h
      rcases set_cases ho h with ⟨rfl, h4⟩ | ⟨hn, h4⟩
      · simp only [Prod.mk.injEq] at h4
        exact .inr (.inl ⟨rfl, h4⟩)
      · exact .inr (.inr ⟨hn, e1, h4⟩)
  have hhas : ∀ {o1 b : Nat}, c'.has o1 b → c.has o1 b ∨ (o1 = o ∧ ∃ base, c.φ o' = some (b, base)) := by
    rintro o1 b (h | ⟨p, base, h⟩)
    · exact .inl (.inl h)
    · by_cases hc : o1 = o ∧ p = i
      · obtain ⟨rfl, rfl⟩ := hc
        rw [hψi] at h
        exact .inr ⟨rfl, base, h⟩
      · simp only [c', if_neg hc] at h
        exact .inl (.inr ⟨p, base, h⟩)
  have hsep : ∀ {b : Nat}, c.has o b → ¬ c.has o' b := fun h1 h2 => hne (hr.inj _ _ _ _ _ _ _ ho rfl ho' (by simp) h1 h2).symm
  have hown : ∀ b, Own c' ((objs.set o (ver, OB.grid 1 (xs.set i [GC.row e2 (ys.take len)]))).set o' (ver', OB.dead)) b → Own c objs b := by
    rintro b ⟨o1, v1, b1, h1, h2, h3⟩
    rcases hobs h1 with ⟨_, rfl⟩ | ⟨rfl, _, _⟩ | ⟨hn, _, h4⟩
    · cases h2
    · rcases hhas h3 with h3 | ⟨_, base, h3⟩
      · exact .mk' ho rfl h3
      · exact .of ho' rfl h3
    · rcases hhas h3 with h3 | ⟨h3, _⟩
      · exact .mk' h4 h2 h3
      · exact (hn h3).elim
  have hE : Ext objs.length c objs w c' ((objs.set o (ver, OB.grid 1 (xs.set i [GC.row e2 (ys.take len)]))).set o' (ver', OB.dead)) (w.setRow b0 (putRow' cs0 (base0 + i) [u0])) := by
    refine ⟨by rw [setRow_size]; exact Nat.le_refl _, rfl, rfl, rfl, fun k _ hno => setRow_other w b0 k _ (fun e => hno (e ▸ .of ho rfl g1)), fun k ks U hk => ?_, fun b hb => .inl (hown b hb), fun _ h => h, fun _ h => .inl h, fun o1 cur bd _ h1 => ?_⟩
    · by_cases e : k = b0
      · subst e
        rw [g2] at hk
        simp only [Option.some.injEq, Obj.cells.injEq, and_true] at hk
        obtain ⟨rfl, rfl⟩ := hk
        exact ⟨_, setRow_heap w k cs0 _ T0 (0, 0) g2, size_putRow' hfit⟩
      · exact ⟨ks, (setRow_other w b0 k _ e).trans hk, rfl⟩
    · by_cases e1 : o1 = o'
      · subst e1
        rw [ho'] at h1
        simp only [Option.some.injEq, Prod.mk.injEq] at h1
        exact ⟨ver', .dead, by rw [List.getElem?_set_self hlt'], by omega, fun _ h => (h rfl).elim⟩
      · by_cases e2' : o1 = o
        · subst e2'
          rw [ho] at h1
          simp only [Option.some.injEq, Prod.mk.injEq] at h1
          obtain ⟨rfl, rfl⟩ := h1
          refine ⟨ver, _, by rw [List.getElem?_set_ne (Ne.symm e1), getElem?_set_self' ho], Nat.le_refl _, fun _ _ => ⟨by simp, rfl, fun p x hp => ?_⟩⟩
          rw [hψp p (fun e => by subst e; rw [hψ0] at hp; cases hp)]
          exact hp
        · exact ⟨cur, bd, by rw [List.getElem?_set_ne (Ne.symm e1), List.getElem?_set_ne (Ne.symm e2')]; exact h1, Nat.le_refl _, fun _ h => ⟨h, rfl, fun p x hp => by rw [hψo o1 p e2']; exact hp⟩⟩
  refine ⟨c', hE, ?_, ?_, fun b hb => by rw [setRow_size]; exact hr.rsize b hb, ?_, fun b hb => hr.oR b (hown b hb)⟩
  · intro o1 v1 b1 h1
    rcases hobs h1 with ⟨_, rfl⟩ | ⟨rfl, rfl, rfl⟩ | ⟨hn, hn', h4⟩
    · exact trivial
    · refine ⟨b0, base0, _, T0, g1, setRow_heap w b0 cs0 _ T0 (0, 0) g2, by rw [List.length_set, size_putRow' hfit]; exact g3, ?_, fun i' j' g hg => ?_, ?_, ?_, ?_⟩
      · intro x hx
        rcases List.mem_or_eq_of_mem_set hx with hx | rfl
        · exact g4 x hx
        · rfl
      · rw [get_putRow' hfit]
        rw [List.getElem?_set] at hg
        by_cases hii : i = i'
        · subst hii
          rw [if_pos rfl, if_pos hil] at hg
          have hj : j' = 0 := by
            cases j' with
            | zero => rfl
            | succ j' => simp at hg
          subst hj
          simp only [Option.bind_some, List.getElem?_cons_zero, Option.some.injEq] at hg
          subst hg
          rw [if_pos (by simp)]
          refine ⟨u0, by simp, ?_⟩
          have hx := hu
          obtain ⟨_, _, hx⟩ := hx
          obtain ⟨a, cp, rfl, k2, _, k4⟩ := hx ⟨_, ho', by simp⟩
          refine ⟨a, cp, by simp; omega, by simp; omega, ?_, fun h0 => ?_⟩
          · intro y hy
            rcases hr.ob _ _ _ ho' with ⟨_, rfl⟩ | ⟨_, _, _, _, _, _, _, q4, _⟩
            · simp at hy
            · exact q4 y (List.mem_of_mem_take hy)
          · obtain ⟨b, base, cs, T, m1, rfl, m3, m4⟩ := k4 h0
            rcases hr.ob _ _ _ ho' with ⟨q1, _⟩ | ⟨b', base', cs', T', q1, q2, q3, q4, q5⟩
            · rw [q1] at m1; cases m1
            rw [m1] at q1
            obtain ⟨rfl, rfl⟩ : b = b' ∧ base = base' := by simpa using q1
            rw [m3] at q2
            simp only [Option.some.injEq, Obj.cells.injEq, and_true] at q2
            obtain ⟨rfl, rfl⟩ := q2
            have hbb : b ≠ b0 := fun e => hsep (e ▸ .inl ⟨_, g1⟩) (.inl ⟨_, m1⟩)
            refine ⟨b, base, cs, T, by rw [Nat.mul_one, Nat.add_zero, hψi]; exact m1, by simp, (setRow_other w b0 b _ hbb).trans m3, by simpa using m4, fun i2 j2 d hd => ?_⟩
            rw [List.getElem?_take] at hd
            split at hd
            · obtain ⟨u, n1, n2⟩ := q5 i2 j2 d hd
              exact ⟨u, n1, hE.rep hr n2⟩
            · simp at hd
        · rw [if_neg hii] at hg
          obtain ⟨u, n1, n2⟩ := g5 i' j' g hg
          have hj : j' = 0 := by
            obtain ⟨x, h1, h2⟩ := Option.bind_eq_some_iff.1 hg
            have := g4 x (List.mem_of_getElem? h1)
            have := (List.getElem?_eq_some_iff.1 h2).1
            omega
          subst hj
          rw [Nat.mul_one, Nat.add_zero] at n1 n2 ⊢
          refine ⟨u, by rw [if_neg (by simp; omega)]; exact n1, n2.keep hE hr (fun x hx => by rw [hψp _ (Ne.symm hii)]; exact hx) (fun b base hb => setRow_other w b0 b _ (g6 _ _ _ hb))⟩
      · intro p b' base' hp
        by_cases e : p = i
        · subst e
          rw [hψi] at hp
          exact fun e => hsep (e ▸ .inl ⟨_, g1⟩) (.inl ⟨_, hp⟩)
        · rw [hψp p e] at hp
          exact g6 p b' base' hp
      · intro p p' b' base' base'' hp hp'
        by_cases e : p = i <;> by_cases e' : p' = i
        · omega
        · subst e
          rw [hψi] at hp
          rw [hψp p' e'] at hp'
          exact (hsep (.inr ⟨_, _, hp'⟩) (.inl ⟨_, hp⟩)).elim
        · subst e'
          rw [hψi] at hp'
          rw [hψp p e] at hp
          exact (hsep (.inr ⟨_, _, hp⟩) (.inl ⟨_, hp'⟩)).elim
        · rw [hψp p e] at hp
          rw [hψp p' e'] at hp'
          exact g7 p p' b' base' base'' hp hp'
      · intro p x hp
        by_cases e : p = i
        · subst e
          exact ⟨_, e2, ys.take len, by rw [Nat.div_one, List.getElem?_set_self hil], by rw [Nat.mod_one]; rfl⟩
        · rw [hψp p e] at hp
          obtain ⟨y, e', zs, h1, h2⟩ := g8 p x hp
          exact ⟨y, e', zs, by rw [List.getElem?_set_ne (by rw [Nat.div_one]; exact Ne.symm e)]; exact h1, h2⟩
    · by_cases hdead : b1 = .dead
      · subst hdead; exact trivial
      refine RelOB.keep hE (Nat.le_refl _) hr rfl (funext fun p => hψo o1 p hn) (fun b hb => setRow_other w b0 b _ ?_) (hr.ob o1 v1 b1 h4)
      rintro rfl
      exact hn (hr.inj _ _ _ _ _ _ _ ho rfl h4 hdead (.inl ⟨_, g1⟩) hb).symm
  · intro o1 o2 v1 v2 b1 b2 b h1 d1 h2 d2 p1 p2
    have f1 : ∃ v x, objs[o1]? = some (v, x) ∧ x.mine = true ∧ o1 ≠ o' := by
      rcases hobs h1 with ⟨_, rfl⟩ | ⟨rfl, _, _⟩ | ⟨_, hn, h4⟩
      · cases d1
      · exact ⟨_, _, ho, rfl, Ne.symm hne⟩
      · exact ⟨_, _, h4, d1, hn⟩
    have f2 : ∃ v x, objs[o2]? = some (v, x) ∧ x ≠ .dead ∧ o2 ≠ o' := by
      rcases hobs h2 with ⟨_, rfl⟩ | ⟨rfl, _, _⟩ | ⟨_, hn, h4⟩
      · exact (d2 rfl).elim
      · exact ⟨_, _, ho, by simp, Ne.symm hne⟩
      · exact ⟨_, _, h4, d2, hn⟩
    obtain ⟨w1, x1, q1, r1, n1⟩ := f1
    obtain ⟨w2, x2, q2, r2, n2⟩ := f2
    rcases hhas p1 with p1' | ⟨rfl, base1, p1'⟩ <;> rcases hhas p2 with p2' | ⟨rfl, base2, p2'⟩
    · exact hr.inj _ _ _ _ _ _ b q1 r1 q2 r2 p1' p2'
    · exact (n1 (hr.inj _ _ _ _ _ _ b q1 r1 ho' (by simp) p1' (.inl ⟨_, p2'⟩))).elim
    · exact (n2 (hr.inj _ _ _ _ _ _ b ho' rfl q2 r2 (.inl ⟨_, p1'⟩) p2').symm).elim
    · rfl
  · intro o1 v1 b1 b h1 d1 p1
    rw [setRow_size]
    rcases hhas p1 with p1' | ⟨rfl, base1, p1'⟩
    · rcases hobs h1 with ⟨_, rfl⟩ | ⟨rfl, _, _⟩ | ⟨_, _, h4⟩
      · exact (d1 rfl).elim
      · exact hr.lsize _ _ _ b ho (by simp) p1'
      · exact hr.lsize _ _ _ b h4 d1 p1'
    · exact hr.lsize _ _ _ b ho' (by simp) (.inl ⟨_, p1'⟩)

theorem run_storeX {P : Program} {t : TypeId} {T : TyI} (hT : TyFacts P t T) {c : Ctx} {objs : Objs} {w : World} {x : CV} {u v : Value} {vs : List CV} {K : Objs → Prop}
    (hr : RelObjs c objs w) (h : storeX T objs x vs K) (hx : RelCV c objs w x u) (hv : RelCs c objs w vs v.cells.toList) :
    ∃ c' w' objs', (Instr.storeAt t u v).run P w = .ok () w' ∧ Ext objs.length c objs w c' objs' w' ∧ RelObjs c' objs' w' ∧ K objs' := by
  have hone := relCs_one hv
  unfold storeX at h
  replace h := chkP_iff.1 h; obtain ⟨hlen, h⟩ := h
  have hsz : v.cells.size = T.size := by have := hv.1; simpa [hlen] using this
  split at h
  · rename_i o ver p e i j
    split at h
    · rename_i v0
      obtain ⟨hok, h⟩ := h
      split at h
      · rename_i d objs1 hfz
        have hT1 : T.size = 1 := by simpa using hlen.symm
        obtain ⟨u0, m1, m2⟩ := hv.2 0 v0 rfl
        obtain ⟨c1, hE1, hr1, hd, _⟩ := run_freezeC hr hfz hok m2
        have hx1 := hE1.relCV (Nat.le_refl _) hr hx
        have hcl : v.cells.toList = [u0] := by
          have hl := hv.1
          match hcl : v.cells.toList, hl with
          | [y], _ => rw [hcl] at m1; simpa using m1
        split at h
        · rename_i e0 xs hob
          replace h := chkP_iff.1 h; obtain ⟨hje, ys, hrow, hlt, hK⟩ := h
          have ho := objAt_some hob
          obtain ⟨b, base, h1, rfl⟩ := hx1.2.2 (live_of_objAt hob (by simp))
          obtain ⟨b0, base0, cs0, T0, g1, g2, g3, g4, g5, g6, g7, g8⟩ := hr1.ob _ _ _ ho
          obtain ⟨uo, r1, a, cp, rfl, k2, k3, k4⟩ := rowAt_rel g4 g5 hrow
          obtain ⟨b', base', cs, T', q1, q2, q3, q4, q5⟩ := k4 (by omega)
          rw [h1] at q1
          obtain ⟨rfl, rfl⟩ : b = b' ∧ base = base' := by simpa using q1
          have hyi : ys[i]? = some ys[i] := List.getElem?_eq_getElem hlt
          have hil : ys[i].length = e := k3 _ (List.getElem_mem hlt)
          have hmul : i * e + e ≤ cp * e := by
            have : (i + 1) * e ≤ cp * e := Nat.mul_le_mul_right e (by omega)
            rwa [Nat.succ_mul] at this
          have hfit : (base + (i * e + j)) + v.cells.toList.length ≤ cs.size := by rw [hcl]; simp; omega
          have hW := write_cells (bd' := .grid e0 (setG e0 xs p (.row e (ys.set i (ys[i].set j d))))) hr1 ho rfl rfl (.inr ⟨p, base, h1⟩) q3 (size_putRow' hfit) fun hE => by
            refine ⟨b0, base0, cs0, T0, g1, (setRow_other w b b0 _ (g6 _ _ _ h1).symm).trans g2, by rw [setG_len]; exact g3, setG_lens g4, fun i' j' g hg => ?_, g6, g7, fun p' x' hx' => setG_row (g8 p' x' hx')⟩
            rcases setG_get g4 hg with ⟨hp, rfl⟩ | ⟨hp, hg⟩
            · rw [hp]
              refine ⟨_, r1, a, cp, ?_, by simpa using k2, ?_, fun _ => ⟨b, base, _, T', h1, q2, setRow_heap w b cs _ T' (0, 0) q3, by rw [size_putRow' hfit]; exact q4, fun i2 j2 d2 hd2 => ?_⟩⟩
              · simp
              · intro y hy
                rcases List.mem_or_eq_of_mem_set hy with hy | rfl
                · exact k3 y hy
                · simp [hil]
              have hvl1 : v.cells.toList.length = 1 := by rw [hcl]; rfl
              rw [get_putRow' hfit]
              rw [List.getElem?_set] at hd2
              by_cases hii : i = i2
              · subst hii
                rw [if_pos rfl, if_pos hlt] at hd2
                simp only [Option.bind_some, List.getElem?_set] at hd2
                by_cases hjj : j = j2
                · subst hjj
                  rw [if_pos rfl, if_pos (by omega)] at hd2
                  obtain rfl := Option.some.inj hd2
                  exact ⟨u0, by rw [if_pos (by omega), hcl]; simp, hE.rep hr1 hd⟩
                · rw [if_neg hjj] at hd2
                  obtain ⟨u', w1, w2⟩ := q5 i j2 d2 (by simp [hyi, hd2])
                  exact ⟨u', by rw [if_neg (by omega)]; exact w1, hE.rep hr1 w2⟩
              · rw [if_neg hii] at hd2
                obtain ⟨u', w1, w2⟩ := q5 i2 j2 d2 hd2
                have hj2 : j2 < e := by
                  cases hyi2 : ys[i2]? with
                  | none => simp [hyi2] at hd2
                  | some y' =>
                    rw [hyi2] at hd2
                    rw [← k3 y' (List.mem_of_getElem? hyi2)]
                    exact (List.getElem?_eq_some_iff.1 hd2).1
                refine ⟨u', ?_, hE.rep hr1 w2⟩
                rw [if_neg, w1]
                intro hc
                apply hii
                rcases Nat.lt_trichotomy i i2 with hl | hl | hl
                · have : (i + 1) * e ≤ i2 * e := Nat.mul_le_mul_right e hl
                  rw [Nat.succ_mul] at this; omega
                · exact hl
                · have : (i2 + 1) * e ≤ i * e := Nat.mul_le_mul_right e hl
                  rw [Nat.succ_mul] at this; omega
            · obtain ⟨u', w1, w2⟩ := g5 i' j' g hg
              refine ⟨u', w1, w2.keep hE hr1 (fun _ h => h) (fun b2 base2 hb2 => setRow_other w b b2 _ ?_)⟩
              rintro rfl
              exact hp (g7 _ _ _ _ _ hb2 h1)
          refine ⟨_, _, _, ?_, hE1.trans hW.1 (hE1.len0), hW.2, hK.all _ hyi⟩
          simp only [Instr.storeAt, Instr.sureAddr, Sem.run_bind, Sem.run_pure, Result.andThen_ok]
          exact hT.run_storeVar q3 hsz (by rw [hT1]; rw [hcl] at hfit; simpa using hfit) hone
        · exact h.elim
      · exact h.elim
    · exact h.elim
  · rename_i o ver off
    split at h
    · rename_i cs hob
      replace h := chkP_iff.1 h; obtain ⟨hle, h⟩ := h
      obtain ⟨b, base, h1, rfl⟩ := hx.2.2 (live_of_objAt hob (by simp))
      have ho := objAt_some hob
      obtain ⟨b', base', cs', T', g1, g2, g3, g4⟩ := hr.ob o ver _ ho
      rw [h1] at g1
      obtain ⟨rfl, rfl⟩ : b = b' ∧ base = base' := by simpa using g1
      have hfit : (base + off) + v.cells.toList.length ≤ cs'.size := by simp [hsz]; omega
      have hW := write_cells (bd' := .box (setCells cs off vs)) hr ho rfl rfl (c.has_of h1) g2 (size_putRow' hfit) fun hE => by
        refine ⟨b, base, _, T', h1, setRow_heap w b cs' _ T' (0, 0) g2, by rw [length_setCells, size_putRow' hfit]; exact g3, fun i y hy => ?_⟩
        rw [get_setCells _ _ _ _ (by omega)] at hy
        rw [get_putRow' hfit]
        have hvl : v.cells.toList.length = vs.length := hv.1
        by_cases hc : off ≤ i ∧ i < off + vs.length
        · rw [if_pos hc] at hy
          obtain ⟨u', k1, k2⟩ := hv.2 _ _ hy
          refine ⟨u', ?_, hE.relCV (Nat.le_refl _) hr k2⟩
          rw [if_pos (by omega), ← k1]; congr 1; omega
        · rw [if_neg hc] at hy
          obtain ⟨u', k1, k2⟩ := g4 _ _ hy
          refine ⟨u', ?_, hE.relCV (Nat.le_refl _) hr k2⟩
          rw [if_neg (by omega), k1]
      refine ⟨_, _, _, ?_, hW.1, hW.2, h⟩
      simp only [Instr.storeAt, Instr.sureAddr, Sem.run_bind, Sem.run_pure, Result.andThen_ok]
      exact hT.run_storeVar g2 hsz (by simpa [hsz] using hfit) hone
    · exact h.elim
  · rename_i o ver e i j
    split at h
    · rename_i e' xs ds hob hds
      replace h := chkP_iff.1 h; obtain ⟨rfl, h⟩ := h
      replace h := chkP_iff.1 h; obtain ⟨hje, hlt, h⟩ := h
      obtain ⟨b, base, h1, rfl⟩ := hx.2.2 (live_of_objAt hob (by simp))
      have ho := objAt_some hob
      rcases hr.ob o ver _ ho with ⟨g1, _⟩ | ⟨b', base', cs', T', g1, g2, g3, g4, g5⟩
      · rw [h1] at g1; cases g1
      · rw [h1] at g1
        obtain ⟨rfl, rfl⟩ : b = b' ∧ base = base' := by simpa using g1
        have hxi : xs[i]? = some xs[i] := List.getElem?_eq_getElem hlt
        obtain ⟨hdl, hdc⟩ := dcsOf_spec hds
        have hil : xs[i].length = e := g4 _ (List.getElem_mem hlt)
        have hK : K (objs.set o (ver, .arr e (xs.set i (setDC xs[i] j ds)))) := by
          split at h
          · rename_i hbe
            have hbe' := Nat.eq_of_beq_eq_true hbe
            rw [setDC_whole (by omega) (by omega)]
            exact h
          · exact h.all _ hxi
        have hmul : i * e + e ≤ xs.length * e := by
          have : (i + 1) * e ≤ xs.length * e := Nat.mul_le_mul_right e hlt
          rwa [Nat.succ_mul] at this
        have hvl : v.cells.toList.length = vs.length := hv.1
        have hfit : (base + (i * e + j)) + v.cells.toList.length ≤ cs'.size := by simp [hsz]; omega
        have hW := write_cells (bd' := .arr e (xs.set i (setDC xs[i] j ds))) hr ho rfl rfl (c.has_of h1) g2 (size_putRow' hfit) fun hE => by
          refine .inr ⟨b, base, _, T', h1, setRow_heap w b cs' _ T' (0, 0) g2, by rw [List.length_set, size_putRow' hfit]; exact g3, ?_, ?_⟩
          · intro x hx
            rcases List.mem_or_eq_of_mem_set hx with hx | rfl
            · exact g4 x hx
            · rw [length_setDC, hil]
          · intro i' j' d hd
            rw [List.getElem?_set] at hd
            rw [get_putRow' hfit]
            by_cases hii : i = i'
            · subst hii
              rw [if_pos rfl, if_pos hlt] at hd
              simp only [Option.bind_some] at hd
              rw [get_setDC _ _ _ _ (by omega)] at hd
              by_cases hc : j ≤ j' ∧ j' < j + ds.length
              · rw [if_pos hc] at hd
                obtain ⟨d', k1, k2⟩ := hdc (j' - j) (vs[j' - j]'(by omega)) (List.getElem?_eq_getElem (by omega))
                rw [k1] at hd
                obtain rfl := Option.some.inj hd
                obtain ⟨u', m1, m2⟩ := hv.2 (j' - j) _ (List.getElem?_eq_getElem (by omega))
                refine ⟨u', ?_, hE.rep hr (rep_dcOf k2 m2)⟩
                rw [if_pos (by omega), ← m1]; congr 1; omega
              · rw [if_neg hc] at hd
                obtain ⟨u', m1, m2⟩ := g5 i j' d (by simp [hxi, hd])
                refine ⟨u', ?_, hE.rep hr m2⟩
                rw [if_neg (by omega), m1]
            · rw [if_neg hii] at hd
              obtain ⟨u', m1, m2⟩ := g5 i' j' d hd
              have hj' : j' < e := by
                cases hxi' : xs[i']? with
                | none => simp [hxi'] at hd
                | some x' =>
                  rw [hxi'] at hd
                  have := g4 x' (List.mem_of_getElem? hxi')
                  rw [← this]
                  exact (List.getElem?_eq_some_iff.1 hd).1
              refine ⟨u', ?_, hE.rep hr m2⟩
              rw [if_neg, m1]
              intro hc
              apply hii
              have a1 : i * e + j ≤ i' * e + j' := by omega
              have a2 : i' * e + j' < i * e + e := by omega
              rcases Nat.lt_trichotomy i i' with hl | hl | hl
              · have : (i + 1) * e ≤ i' * e := Nat.mul_le_mul_right e hl
                rw [Nat.succ_mul] at this; omega
              · exact hl
              · have : (i' + 1) * e ≤ i * e := Nat.mul_le_mul_right e hl
                rw [Nat.succ_mul] at this; omega
        refine ⟨_, _, _, ?_, hW.1, hW.2, hK⟩
        simp only [Instr.storeAt, Instr.sureAddr, Sem.run_bind, Sem.run_pure, Result.andThen_ok]
        exact hT.run_storeVar g2 hsz (by simpa [hsz] using hfit) hone
    · rename_i e' xs hob
      split at h
      · rename_i o' ver' e2 off' len' cap
        split at h
        · rename_i e3 ys hob'
          replace h := chkP_iff.1 h; obtain ⟨hne, h⟩ := h
          replace h := chkP_iff.1 h; obtain ⟨⟨he3, hoff⟩, h⟩ := h
          replace h := chkP_iff.1 h; obtain ⟨⟨hee, he1, hj⟩, hlt, hle, h⟩ := h
          subst he3 hoff hee he1 hj
          have hxi : xs[i]? = some xs[i] := List.getElem?_eq_getElem hlt
          obtain ⟨hnil, hK⟩ := h.all _ hxi
          rw [hnil] at hxi
          have ho := objAt_some hob
          obtain ⟨b, base, h1, rfl⟩ := hx.2.2 (live_of_objAt hob (by simp))
          obtain ⟨b0, base0, cs0, T0, g1, g2, g3, _⟩ := hr.ob _ _ _ ho
          rw [h1] at g1
          obtain ⟨rfl, rfl⟩ : b = b0 ∧ base = base0 := by simpa using g1
          have hT1 : T.size = 1 := by simpa using hlen.symm
          obtain ⟨u0, m1, m2⟩ := hv.2 0 _ rfl
          have hcl : v.cells.toList = [u0] := by
            have hl := hv.1
            match hcl : v.cells.toList, hl with
            | [y], _ => rw [hcl] at m1; simpa using m1
          obtain ⟨c', hE, hr'⟩ := absorb_ok hr ho (objAt_some hob') hne hxi hle m2 h1 g2
          refine ⟨c', _, _, ?_, hE, hr', hK⟩
          simp only [Instr.storeAt, Instr.sureAddr, Sem.run_bind, Sem.run_pure, Result.andThen_ok, Nat.mul_one, Nat.add_zero]
          rw [← hcl]
          exact hT.run_storeVar g2 hsz (by omega) hone
        · exact h.elim
      · exact h.elim
    · exact h.elim
  · exact h.elim

end Go.Proofs.Ytbmaofepmheeeaa

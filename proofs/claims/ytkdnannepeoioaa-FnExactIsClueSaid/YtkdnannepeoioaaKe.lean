/- The executor is sound: what a store, a new block, a new object make of the objects. -/
import Derived.Test.YtkdnannepeoioaaKd
namespace Go.Proofs.Ytkdnannepeoioaa
open Go Go.RowKit

theorem Own.of {c : Ctx} {objs : Objs} {o ver b base : Nat} {bd : OB} (h : objs[o]? = some (ver, bd)) (hb : bd ≠ .dead) (hp : c.φ o = some (b, base)) : Own c objs b := ⟨o, ver, bd, base, h, hb, hp⟩

/-- An object whose block stays stays what it is. -/
theorem RelOB.keep {n : Nat} {c c' : Ctx} {objs objs' : Objs} {w w' : World} (h : Ext n c objs w c' objs' w') (hn : objs.length ≤ n) (hr : RelObjs c objs w) {o : Nat} {bd : OB}
    (hφ : c'.φ o = c.φ o) (hb : ∀ b base, c.φ o = some (b, base) → w'.heap[b]? = w.heap[b]?) (ho : RelOB c objs w o bd) : RelOB c' objs' w' o bd := by
  cases bd with
  | dead => exact trivial
  | box xs =>
    obtain ⟨b, base, cs, T, h1, h2, h3, h4⟩ := ho
    refine ⟨b, base, cs, T, hφ.trans h1, (hb b base h1).trans h2, h3, fun i x hx => ?_⟩
    obtain ⟨u, k1, k2⟩ := h4 i x hx
    exact ⟨u, k1, h.relCV hn hr k2⟩
  | arr e xs =>
    rcases ho with ⟨h1, h2⟩ | ⟨b, base, cs, T, h1, h2, h3, h4, h5⟩
    · exact .inl ⟨hφ.trans h1, h2⟩
    · refine .inr ⟨b, base, cs, T, hφ.trans h1, (hb b base h1).trans h2, h3, h4, fun i j d hd => ?_⟩
      obtain ⟨u, k1, k2⟩ := h5 i j d hd
      exact ⟨u, k1, h.rep hr k2⟩

theorem setRow_size (w : World) (g : Nat) (cs : Array Value) : (w.setRow g cs).heap.size = w.heap.size := by simp [World.setRow]

theorem getElem?_set_self' {objs : Objs} {o : Nat} {x y : Nat × OB} (h : objs[o]? = some x) : (objs.set o y)[o]? = some y := by
  have := (List.getElem?_eq_some_iff.1 h).1
  simp [this]

theorem set_cases {objs : Objs} {o o' : Nat} {x y z : Nat × OB} (h : objs[o]? = some x) (hz : (objs.set o y)[o']? = some z) : (o' = o ∧ z = y) ∨ (o' ≠ o ∧ objs[o']? = some z) := by
  by_cases e : o' = o
  · subst e
    rw [getElem?_set_self' h] at hz
    exact .inl ⟨rfl, (Option.some.inj hz).symm⟩
  · rw [List.getElem?_set_ne (Ne.symm e)] at hz
    exact .inr ⟨e, hz⟩

theorem write_ext {c : Ctx} {objs : Objs} {w : World} {o ver b base : Nat} {bd bd' : OB} {cs cs' : Array Value} {T : TypeId}
    (ho : objs[o]? = some (ver, bd)) (hd : bd ≠ .dead) (_ : bd' ≠ .dead) (hφ : c.φ o = some (b, base)) (hb : w.heap[b]? = some (.cells cs T (0, 0))) (hs : cs'.size = cs.size) :
    Ext objs.length c objs w c (objs.set o (ver, bd')) (w.setRow b cs') := by
  refine ⟨by rw [setRow_size]; exact Nat.le_refl _, rfl, rfl, rfl, ?_, ?_, ?_, fun _ h => h, fun _ h => .inl h, ?_⟩
  · intro k hk hno
    by_cases e : k = b
    · subst e; exact (hno (.of ho hd hφ)).elim
    · exact setRow_other w b k cs' e
  · intro k ks U hk
    by_cases e : k = b
    · subst e
      rw [hb] at hk
      simp only [Option.some.injEq, Obj.cells.injEq, and_true] at hk
      obtain ⟨rfl, rfl⟩ := hk
      exact ⟨cs', setRow_heap w k cs cs' T (0, 0) hb, hs⟩
    · exact ⟨ks, (setRow_other w b k cs' e).trans hk, rfl⟩
  · rintro k ⟨o', ver', bd2, base', h1, h2, h3⟩
    refine .inl ?_
    rcases set_cases ho h1 with ⟨rfl, h4⟩ | ⟨_, h4⟩
    · exact .of ho hd h3
    · exact .of h4 h2 h3
  · intro o' cur bd2 _ h1
    by_cases e : o' = o
    · subst e
      rw [ho] at h1
      obtain ⟨rfl, rfl⟩ : ver = cur ∧ bd = bd2 := by simpa using h1
      exact ⟨_, _, getElem?_set_self' ho, Nat.le_refl _, fun _ _ => ⟨hd, rfl⟩⟩
    · exact ⟨cur, bd2, by rw [List.getElem?_set_ne (Ne.symm e)]; exact h1, Nat.le_refl _, fun _ h => ⟨h, rfl⟩⟩

theorem write_objs {c : Ctx} {objs : Objs} {w : World} {o ver b base : Nat} {bd bd' : OB} {cs cs' : Array Value} {T : TypeId} (hr : RelObjs c objs w)
    (ho : objs[o]? = some (ver, bd)) (hd : bd ≠ .dead) (hd' : bd' ≠ .dead) (hφ : c.φ o = some (b, base)) (hb : w.heap[b]? = some (.cells cs T (0, 0))) (hs : cs'.size = cs.size)
    (hn : RelOB c (objs.set o (ver, bd')) (w.setRow b cs') o bd') : RelObjs c (objs.set o (ver, bd')) (w.setRow b cs') := by
  have hE := write_ext ho hd hd' hφ hb hs
  refine ⟨?_, ?_, ?_, ?_⟩
  · intro o' ver' bd2 h1
    rcases set_cases ho h1 with ⟨rfl, h4⟩ | ⟨hne, h4⟩
    · obtain ⟨rfl, rfl⟩ : ver' = ver ∧ bd2 = bd' := by simpa using h4
      exact hn
    · by_cases hdead : bd2 = .dead
      · subst hdead; exact trivial
      refine RelOB.keep hE (Nat.le_refl _) hr rfl (fun b2 base2 hp => setRow_other w b b2 cs' ?_) (hr.ob o' ver' bd2 h4)
      rintro rfl
      exact hne (hr.inj o' o ver' ver bd2 bd b2 base2 base h4 hdead ho hd hp hφ)
  · intro o1 o2 v1 v2 b1 b2 b base1 base2 h1 h2 h3 h4 h5 h6
    have k1 : ∃ v x, objs[o1]? = some (v, x) ∧ x ≠ .dead := by
      rcases set_cases ho h1 with ⟨rfl, _⟩ | ⟨_, h⟩
      · exact ⟨_, _, ho, hd⟩
      · exact ⟨_, _, h, h2⟩
    have k2 : ∃ v x, objs[o2]? = some (v, x) ∧ x ≠ .dead := by
      rcases set_cases ho h3 with ⟨rfl, _⟩ | ⟨_, h⟩
      · exact ⟨_, _, ho, hd⟩
      · exact ⟨_, _, h, h4⟩
    obtain ⟨w1, x1, p1, q1⟩ := k1
    obtain ⟨w2, x2, p2, q2⟩ := k2
    exact hr.inj o1 o2 w1 w2 x1 x2 b base1 base2 p1 q1 p2 q2 h5 h6
  · intro k hk
    rw [setRow_size]
    exact hr.rsize k hk
  · intro k hk
    rw [setRow_size]
    refine (hr.osize k ?_)
    rcases hE.own k hk with h | h
    · exact h
    · obtain ⟨o', ver', bd2, base', h1, h2, h3⟩ := hk
      rcases set_cases ho h1 with ⟨rfl, h4⟩ | ⟨_, h4⟩
      · exact .of ho hd h3
      · exact .of h4 h2 h3

theorem length_setCells (vs : List CV) : ∀ (cs : List CV) (off : Nat), (setCells cs off vs).length = cs.length := by
  induction vs with
  | nil => intros; rfl
  | cons v r ih => intro cs off; simp [setCells, ih]

theorem get_setCells (vs : List CV) : ∀ (cs : List CV) (off i : Nat), off + vs.length ≤ cs.length →
    (setCells cs off vs)[i]? = if off ≤ i ∧ i < off + vs.length then vs[i - off]? else cs[i]? := by
  induction vs with
  | nil => intro cs off i _; simp [setCells]; omega
  | cons v r ih =>
    intro cs off i h
    simp only [List.length_cons] at h
    rw [setCells, ih _ _ _ (by simp; omega), List.getElem?_set]
    simp only [List.length_cons]
    by_cases h1 : off = i
    · subst h1
      rw [if_neg (by omega), if_pos rfl, if_pos (by omega), if_pos ⟨by omega, by omega⟩]
      simp
    · by_cases h2 : off ≤ i ∧ i < off + (r.length + 1)
      · rw [if_pos (by omega), if_pos h2, show i - off = (i - (off + 1)) + 1 by omega]
        simp
      · rw [if_neg (by omega), if_neg h2, if_neg h1]

theorem length_setDC (vs : List DC) : ∀ (cs : List DC) (off : Nat), (setDC cs off vs).length = cs.length := by
  induction vs with
  | nil => intros; rfl
  | cons v r ih => intro cs off; simp [setDC, ih]

theorem get_setDC (vs : List DC) : ∀ (cs : List DC) (off i : Nat), off + vs.length ≤ cs.length →
    (setDC cs off vs)[i]? = if off ≤ i ∧ i < off + vs.length then vs[i - off]? else cs[i]? := by
  induction vs with
  | nil => intro cs off i _; simp [setDC]; omega
  | cons v r ih =>
    intro cs off i h
    simp only [List.length_cons] at h
    rw [setDC, ih _ _ _ (by simp; omega), List.getElem?_set]
    simp only [List.length_cons]
    by_cases h1 : off = i
    · subst h1
      rw [if_neg (by omega), if_pos rfl, if_pos (by omega), if_pos ⟨by omega, by omega⟩]
      simp
    · by_cases h2 : off ≤ i ∧ i < off + (r.length + 1)
      · rw [if_pos (by omega), if_pos h2, show i - off = (i - (off + 1)) + 1 by omega]
        simp
      · rw [if_neg (by omega), if_neg h2, if_neg h1]

/-- A row of cells with some of them written. -/
def putRow' (cs : Array Value) (o : Nat) (vs : List Value) : Array Value := (cs.toList.take o ++ vs ++ cs.toList.drop (o + vs.length)).toArray

theorem size_putRow' {cs : Array Value} {o : Nat} {vs : List Value} (h : o + vs.length ≤ cs.size) : (putRow' cs o vs).size = cs.size := by
  simp [putRow']; omega

theorem get_putRow' {cs : Array Value} {o : Nat} {vs : List Value} (h : o + vs.length ≤ cs.size) (i : Nat) :
    (putRow' cs o vs)[i]? = if o ≤ i ∧ i < o + vs.length then vs[i - o]? else cs[i]? := by
  simp only [putRow', List.getElem?_toArray, List.append_assoc]
  have hl : (cs.toList.take o).length = o := by simp; omega
  by_cases h1 : i < o
  · rw [List.getElem?_append_left (by omega), if_neg (by omega), List.getElem?_take, if_pos h1]
    simp
  · rw [List.getElem?_append_right (by omega), hl]
    by_cases h2 : i < o + vs.length
    · rw [List.getElem?_append_left (by omega), if_pos ⟨by omega, h2⟩]
    · rw [List.getElem?_append_right (by omega), if_neg (by omega), List.getElem?_drop]
      rw [Array.getElem?_toList]
      congr 1; omega

theorem run_storeCells_put {P : Program} {w : World} {b o : Nat} {cs : Array Value} {T : TypeId} (hb : w.heap[b]? = some (.cells cs T (0, 0))) (vs : List Value) (h : o + vs.length ≤ cs.size)
    (h1 : ∀ v ∈ vs, v.oneCell' = true) : (storeCells ⟨b, o, none⟩ vs).run P w = .ok () (w.setRow b (putRow' cs o vs)) := by
  have := run_storeCells_at (P := P) b o T vs 0 cs w hb (by simpa using h) h1
  simpa [putRow'] using this

theorem TyFacts.run_storeVar {P : Program} {t : TypeId} {T : TyI} (h : TyFacts P t T) {w : World} {b o : Nat} {cs : Array Value} {U : TypeId} {v : Value}
    (hb : w.heap[b]? = some (.cells cs U (0, 0))) (hs : v.cells.size = T.size) (hf : o + T.size ≤ cs.size) (h1 : ∀ x ∈ v.cells.toList, x.oneCell' = true) :
    (storeVar t ⟨b, o, none⟩ v).run P w = .ok () (w.setRow b (putRow' cs o v.cells.toList)) := by
  have hst := run_storeCells_put (P := P) hb v.cells.toList (by simpa [hs] using hf) h1
  simp [storeVar, h.run_sizeOf, hs, hst]

theorem relCs_one {c : Ctx} {objs : Objs} {w : World} {xs : List CV} {us : List Value} (h : RelCs c objs w xs us) : ∀ u ∈ us, u.oneCell' = true := by
  intro u hu
  obtain ⟨i, hi, rfl⟩ := List.mem_iff_getElem.1 hu
  obtain ⟨u', h1, h2⟩ := h.2 i (xs[i]'(by rw [← h.1]; exact hi)) (List.getElem?_eq_getElem _)
  rw [List.getElem?_eq_getElem hi] at h1
  obtain rfl := Option.some.inj h1
  exact h2.one

theorem dcsOf_spec : ∀ {vs : List CV} {ds : List DC}, dcsOf vs = some ds → ds.length = vs.length ∧ ∀ (i : Nat) x, vs[i]? = some x → ∃ d, ds[i]? = some d ∧ dcOf x = some d
  | [], ds, h => by obtain rfl := Option.some.inj h; exact ⟨rfl, by simp⟩
  | x :: r, ds, h => by
    unfold dcsOf at h
    split at h
    · rename_i d ds' h1 h2
      obtain rfl := Option.some.inj h
      obtain ⟨k1, k2⟩ := dcsOf_spec h2
      refine ⟨by simp [k1], fun i y hy => ?_⟩
      cases i with
      | zero => simp only [List.getElem?_cons_zero, Option.some.injEq] at hy ⊢; subst hy; exact ⟨d, rfl, h1⟩
      | succ i => simp only [List.getElem?_cons_succ] at hy ⊢; exact k2 i y hy
    · cases h

theorem rep_dcOf {c : Ctx} {objs : Objs} {w : World} {x : CV} {d : DC} {u : Value} (h : dcOf x = some d) (hx : RelCV c objs w x u) : Rep w c.R d u := by
  cases x with
  | d y => obtain rfl := Option.some.inj h; exact hx
  | nilsl => obtain rfl := Option.some.inj h; obtain rfl := hx; exact .v _ rfl
  | _ => cases h

theorem setDC_whole {x ds : List DC} {j : Nat} (hl : ds.length = x.length) (hj : j + ds.length ≤ x.length) : setDC x j ds = ds := by
  obtain rfl : j = 0 := by omega
  apply List.ext_getElem?
  intro i
  rw [get_setDC _ _ _ _ (by omega)]
  by_cases h : i < ds.length
  · rw [if_pos ⟨Nat.zero_le _, by omega⟩]; rfl
  · rw [if_neg (by omega), List.getElem?_eq_none (by omega), List.getElem?_eq_none (by omega)]

theorem run_storeX {P : Program} {t : TypeId} {T : TyI} (hT : TyFacts P t T) {c : Ctx} {objs : Objs} {w : World} {x : CV} {u v : Value} {vs : List CV} {K : Objs → Prop}
    (hr : RelObjs c objs w) (h : storeX T objs x vs K) (hx : RelCV c objs w x u) (hv : RelCs c objs w vs v.cells.toList) :
    ∃ w' objs', (Instr.storeAt t u v).run P w = .ok () w' ∧ Ext objs.length c objs w c objs' w' ∧ RelObjs c objs' w' ∧ K objs' := by
  have hone := relCs_one hv
  unfold storeX at h
  replace h := chkP_iff.1 h; obtain ⟨hlen, h⟩ := h
  have hsz : v.cells.size = T.size := by have := hv.1; simpa [hlen] using this
  split at h
  · rename_i o ver off
    split at h
    · rename_i cs hob
      replace h := chkP_iff.1 h; obtain ⟨hle, h⟩ := h
      obtain ⟨b, base, h1, rfl⟩ := hx.2.2 (live_of_objAt hob (by simp))
      have ho := objAt_some hob
      obtain ⟨b', base', cs', T', g1, g2, g3, g4⟩ := hr.ob o ver _ ho
      rw [h1] at g1
      obtain ⟨rfl, rfl⟩ : b = b' ∧ base = base' := by simpa using g1
      have hfit : (base + off) + v.cells.toList.length ≤ cs'.size := by simp [hsz]; omega
      have hE := write_ext (bd' := .box (setCells cs off vs)) ho (by simp) (by simp) h1 g2 (size_putRow' hfit)
      refine ⟨_, _, ?_, hE, write_objs hr ho (by simp) (by simp) h1 g2 (size_putRow' hfit) ?_, h⟩
      · simp only [Instr.storeAt, Instr.sureAddr, Sem.run_bind, Sem.run_pure, Result.andThen_ok]
        exact hT.run_storeVar g2 hsz (by simpa [hsz] using hfit) hone
      · refine ⟨b, base, _, T', h1, setRow_heap w b cs' _ T' (0, 0) g2, by rw [length_setCells, size_putRow' hfit]; exact g3, fun i y hy => ?_⟩
        rw [get_setCells _ _ _ _ (by omega)] at hy
        rw [get_putRow' hfit]
        have hvl : v.cells.toList.length = vs.length := hv.1
        by_cases hc : off ≤ i ∧ i < off + vs.length
        · rw [if_pos hc] at hy
          obtain ⟨u', k1, k2⟩ := hv.2 _ _ hy
          refine ⟨u', ?_, hE.relCV (Nat.le_refl _) hr k2⟩
          rw [if_pos (by omega), ← k1]; congr 1; omega
        · rw [if_neg hc] at hy
          obtain ⟨u', k1, k2⟩ := g4 _ _ hy
          refine ⟨u', ?_, hE.relCV (Nat.le_refl _) hr k2⟩
          rw [if_neg (by omega), k1]
    · exact h.elim
  · rename_i o ver e i j
    split at h
    · rename_i e' xs ds hob hds
      replace h := chkP_iff.1 h; obtain ⟨rfl, h⟩ := h
      replace h := chkP_iff.1 h; obtain ⟨hje, hlt, h⟩ := h
      obtain ⟨b, base, h1, rfl⟩ := hx.2.2 (live_of_objAt hob (by simp))
      have ho := objAt_some hob
      rcases hr.ob o ver _ ho with ⟨g1, _⟩ | ⟨b', base', cs', T', g1, g2, g3, g4, g5⟩
      · rw [h1] at g1; cases g1
      · rw [h1] at g1
        obtain ⟨rfl, rfl⟩ : b = b' ∧ base = base' := by simpa using g1
        have hxi : xs[i]? = some xs[i] := List.getElem?_eq_getElem hlt
        obtain ⟨hdl, hdc⟩ := dcsOf_spec hds
        have hil : xs[i].length = e := g4 _ (List.getElem_mem hlt)
        have hK : K (objs.set o (ver, .arr e (xs.set i (setDC xs[i] j ds)))) := by
          split at h
          · rename_i hbe
            have hbe' := Nat.eq_of_beq_eq_true hbe
            rw [setDC_whole (by omega) (by omega)]
            exact h
          · exact h.all _ hxi
        have hmul : i * e + e ≤ xs.length * e := by
          have : (i + 1) * e ≤ xs.length * e := Nat.mul_le_mul_right e hlt
          rwa [Nat.succ_mul] at this
        have hvl : v.cells.toList.length = vs.length := hv.1
        have hfit : (base + (i * e + j)) + v.cells.toList.length ≤ cs'.size := by simp [hsz]; omega
        have hE := write_ext (bd' := .arr e (xs.set i (setDC xs[i] j ds))) ho (by simp) (by simp) h1 g2 (size_putRow' hfit)
        refine ⟨_, _, ?_, hE, write_objs hr ho (by simp) (by simp) h1 g2 (size_putRow' hfit) ?_, hK⟩
        · simp only [Instr.storeAt, Instr.sureAddr, Sem.run_bind, Sem.run_pure, Result.andThen_ok]
          exact hT.run_storeVar g2 hsz (by simpa [hsz] using hfit) hone
        · refine .inr ⟨b, base, _, T', h1, setRow_heap w b cs' _ T' (0, 0) g2, by rw [List.length_set, size_putRow' hfit]; exact g3, ?_, ?_⟩
          · intro x hx
            rcases List.mem_or_eq_of_mem_set hx with hx | rfl
            · exact g4 x hx
            · rw [length_setDC, hil]
          · intro i' j' d hd
            rw [List.getElem?_set] at hd
            rw [get_putRow' hfit]
            by_cases hii : i = i'
            · subst hii
              rw [if_pos rfl, if_pos hlt] at hd
              simp only [Option.bind_some] at hd
              rw [get_setDC _ _ _ _ (by omega)] at hd
              by_cases hc : j ≤ j' ∧ j' < j + ds.length
              · rw [if_pos hc] at hd
                obtain ⟨d', k1, k2⟩ := hdc (j' - j) (vs[j' - j]'(by omega)) (List.getElem?_eq_getElem (by omega))
                rw [k1] at hd
                obtain rfl := Option.some.inj hd
                obtain ⟨u', m1, m2⟩ := hv.2 (j' - j) _ (List.getElem?_eq_getElem (by omega))
                refine ⟨u', ?_, hE.rep hr (rep_dcOf k2 m2)⟩
                rw [if_pos (by omega), ← m1]; congr 1; omega
              · rw [if_neg hc] at hd
                obtain ⟨u', m1, m2⟩ := g5 i j' d (by simp [hxi, hd])
                refine ⟨u', ?_, hE.rep hr m2⟩
                rw [if_neg (by omega), m1]
            · rw [if_neg hii] at hd
              obtain ⟨u', m1, m2⟩ := g5 i' j' d hd
              have hj' : j' < e := by
                cases hxi' : xs[i']? with
                | none => simp [hxi'] at hd
                | some x' =>
                  rw [hxi'] at hd
                  have := g4 x' (List.mem_of_getElem? hxi')
                  rw [← this]
                  exact (List.getElem?_eq_some_iff.1 hd).1
              refine ⟨u', ?_, hE.rep hr m2⟩
              rw [if_neg, m1]
              intro hc
              apply hii
              have a1 : i * e + j ≤ i' * e + j' := by omega
              have a2 : i' * e + j' < i * e + e := by omega
              rcases Nat.lt_trichotomy i i' with hl | hl | hl
              · have : (i + 1) * e ≤ i' * e := Nat.mul_le_mul_right e hl
                rw [Nat.succ_mul] at this; omega
              · exact hl
              · have : (i' + 1) * e ≤ i * e := Nat.mul_le_mul_right e hl
                rw [Nat.succ_mul] at this; omega
    · exact h.elim
  · exact h.elim

end Go.Proofs.Ytkdnannepeoioaa

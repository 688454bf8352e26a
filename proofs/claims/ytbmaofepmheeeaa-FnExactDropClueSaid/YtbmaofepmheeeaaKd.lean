/- The executor is sound: types, loads, stores, new objects. -/
import Derived.Test.YtbmaofepmheeeaaKc
import Derived.Laws.Rows
namespace Go.Proofs.Ytbmaofepmheeeaa
open Go Go.RowKit

structure TyFacts (P : Program) (t : TypeId) (T : TyI) where
  i : TypeInfo
  z : Value
  info : P.info? t = some i
  zero : i.zero = some z
  size : T.size = i.size
  bytes : T.bytes = i.bytes
  zeros : T.zero = z.cells.toList.map constCV
  ones : ∀ v ∈ z.cells.toList, v.oneCell' = true
  zsize : z.cells.size = i.size
  und : (P.underlying t).isSome = true
  kind : T.kind = kindX P t
  aggz : isAggV z = T.kind.agg

theorem tyX_facts {P : Program} {t : TypeId} {T : TyI} (h : tyX P t = some T) : Nonempty (TyFacts P t T) := by
  unfold tyX at h
  cases hi : P.info? t with
  | none => simp [hi] at h
  | some i =>
    cases hz : i.zero with
    | none => simp [hi, hz] at h
    | some z =>
      simp only [hi, hz, Option.bind_some] at h
      split at h
      · rename_i hc
        simp only [Bool.and_eq_true, beq_iff_eq] at hc
        obtain ⟨⟨⟨h1, h2⟩, h3⟩, h4⟩ := hc
        obtain rfl := Option.some.inj h
        exact ⟨⟨i, z, hi, hz, rfl, rfl, rfl, fun v hv => List.all_eq_true.1 h1 v hv, h2, h3, rfl, h4⟩⟩
      · cases h

theorem TyFacts.run_sizeOf {P : Program} {t : TypeId} {T : TyI} (h : TyFacts P t T) (w : World) : (sizeOf t).run P w = .ok T.size w := by
  simp [sizeOf, typeInfo, h.info, h.size]

theorem TyFacts.run_typeInfo {P : Program} {t : TypeId} {T : TyI} (h : TyFacts P t T) (w : World) : (typeInfo t).run P w = .ok h.i w := by
  simp [typeInfo, h.info]

theorem TyFacts.run_zero {P : Program} {t : TypeId} {T : TyI} (h : TyFacts P t T) (w : World) : (zeroValue t).run P w = .ok h.z w := by
  simp [zeroValue, typeInfo, h.info, h.zero]

def descAgg : TypeDesc → Bool
  | .struct _ | .array _ _ => true
  | _ => false

theorem TyFacts.run_isAgg {P : Program} {t : TypeId} {T : TyI} (h : TyFacts P t T) (w : World) : (isAgg t).run P w = .ok T.kind.agg w := by
  obtain ⟨d, hd⟩ := Option.isSome_iff_exists.1 h.und
  have hk : T.kind.agg = descAgg d := by
    rw [h.kind]; unfold kindX; rw [hd]; cases d <;> first | rfl | (dsimp only; split <;> rfl)
  rw [hk]
  unfold isAgg
  rw [Sem.run_bind, run_underlying hd w]
  cases d <;> rfl

theorem add_none (b o n : Nat) : (⟨b, o, none⟩ : Addr).add n = ⟨b, o + n, none⟩ := by
  unfold Addr.add; split <;> simp_all

/-- A variable that lies in cells us from a place on. -/
theorem TyFacts.run_loadVar_agg {P : Program} {t : TypeId} {T : TyI} (h : TyFacts P t T) {w : World} {b o : Nat} (us : List Value) (hg : T.kind.agg = true) (hl : us.length = T.size)
    (hc : ∀ (j : Nat) u, us[j]? = some u → w.cell? ⟨b, o + j, none⟩ = some u) : (loadVar t ⟨b, o, none⟩).run P w = .ok (.agg us.toArray) w := by
  have h1 := run_loadCells_list (P := P) w ⟨b, o, none⟩ us (fun j u hu => by rw [add_none]; exact hc j u hu)
  rw [hl] at h1
  simp [loadVar, h.run_isAgg, hg, h.run_sizeOf, h1]

theorem TyFacts.run_loadVar_one {P : Program} {t : TypeId} {T : TyI} (h : TyFacts P t T) {w : World} {a : Addr} {u : Value} (hg : T.kind.agg = false)
    (hc : w.cell? a = some u) : (loadVar t a).run P w = .ok u w := by
  simp [loadVar, h.run_isAgg, hg, hc]

/-- cells as values: a list of abstract cells and what they stand for. -/
def RelCs (c : Ctx) (objs : Objs) (w : World) (xs : List CV) (us : List Value) : Prop :=
  us.length = xs.length ∧ ∀ (i : Nat) x, xs[i]? = some x → ∃ u, us[i]? = some u ∧ RelCV c objs w x u

theorem run_takeX {P : Program} {t : TypeId} {T : TyI} (hT : TyFacts P t T) {c : Ctx} {objs : Objs} {w : World} {cs : List CV} {off b o : Nat} {K : V1 → Prop}
    (h : takeX T cs off K) (hc : ∀ (j : Nat) x, cs[off + j]? = some x → ∃ u, w.cell? ⟨b, o + j, none⟩ = some u ∧ RelCV c objs w x u) :
    ∃ v z, (∀ w', SameOld w w' → (loadVar t ⟨b, o, none⟩).run P w' = .ok v w') ∧ RelV1 c objs w z v ∧ K z := by
  unfold takeX at h
  split at h
  · rename_i hg
    replace h := chkP_iff.1 h; obtain ⟨hle, hk⟩ := h
    have hex : ∀ j, j < T.size → ∃ u, w.cell? ⟨b, o + j, none⟩ = some u ∧ ∃ x, cs[off + j]? = some x ∧ RelCV c objs w x u := by
      intro j hj
      obtain ⟨u, h1, h2⟩ := hc j _ (List.getElem?_eq_getElem (show off + j < cs.length by omega))
      exact ⟨u, h1, _, List.getElem?_eq_getElem (by omega), h2⟩
    let f : Nat → Value := fun j => ((w.cell? ⟨b, o + j, none⟩).getD undef)
    have hf : ∀ j, j < T.size → w.cell? ⟨b, o + j, none⟩ = some (f j) := by
      intro j hj
      obtain ⟨u, h1, _⟩ := hex j hj
      simp [f, h1]
    refine ⟨.agg ((List.range T.size).map f).toArray, .agg ((cs.drop off).take T.size), fun w' hs => hT.run_loadVar_agg _ hg (by simp) ?_, ⟨_, rfl, by simp; omega, ?_⟩, hk⟩
    · intro j u hu
      simp only [List.getElem?_map, Option.map_eq_some_iff] at hu
      obtain ⟨i, hi, rfl⟩ := hu
      have hj : j < T.size := by
        have := (List.getElem?_eq_some_iff.1 hi).1; simpa using this
      have : i = j := by simpa [List.getElem?_range, hj] using hi.symm
      subst this
      exact hs.cell (hf _ hj)
    · intro i x hx
      rw [List.getElem?_take] at hx
      split at hx
      · rename_i hi
        rw [List.getElem?_drop] at hx
        obtain ⟨u, h1, h2⟩ := hc i x hx
        refine ⟨u, ?_, h2⟩
        have : f i = u := by simp [f, h1]
        simp [hi, this]
      · cases hx
  · rename_i hg
    split at h
    · rename_i x hx
      obtain ⟨u, h1, h2⟩ := hc 0 x (by simpa using hx)
      exact ⟨u, .c x, fun w' hs => hT.run_loadVar_one (by simpa using hg) (hs.cell (by simpa using h1)), h2, h⟩
    · exact h.elim

theorem objAt_some {objs : Objs} {o ver : Nat} {b : OB} (h : objAt objs o ver = some b) : objs[o]? = some (ver, b) := by
  unfold objAt at h
  split at h
  · split at h
    · rename_i hv
      obtain rfl := Option.some.inj h
      subst hv
      assumption
    · cases h
  · cases h

theorem live_of_objAt {objs : Objs} {o ver : Nat} {b : OB} (h : objAt objs o ver = some b) (hb : b ≠ .dead) : Live objs o ver := ⟨b, objAt_some h, hb⟩

theorem rel_cvOf {c : Ctx} {objs : Objs} {w : World} {d : DC} {u : Value} (h : Rep w c.R d u) : RelCV c objs w (cvOf d) u := by
  cases d with
  | v x => obtain rfl := Rep.v_inv h; exact rel_constCV _ _ _ _ (Rep.one h)
  | list e xs => exact h

theorem relOB_peel {c : Ctx} {objs : Objs} {w : World} {o : Nat} : ∀ {b : OB}, RelOB c objs w o b → RelOB c objs w o (peel b)
  | .fro _ b, h => relOB_peel (b := b) h.1
  | .dead, h => h
  | .box _, h => h
  | .arr _ _, h => h
  | .grid _ _, h => h
  | .map _ _, h => h

theorem objRd_ob {c : Ctx} {objs : Objs} {w : World} {o ver : Nat} {b : OB} (hr : RelObjs c objs w) (h : objRd objs o ver = some b) : RelOB c objs w o b ∧ Live objs o ver := by
  unfold objRd at h
  split at h
  · cases h
  · rename_i b' hb ho
    obtain rfl := Option.some.inj h
    exact ⟨relOB_peel (hr.ob o ver _ (objAt_some ho)), live_of_objAt ho hb⟩
  · cases h

theorem objRd_of {objs : Objs} {o ver e : Nat} {xs : List (List DC)} (h : objAt objs o ver = some (.arr e xs)) : objRd objs o ver = some (.arr e xs) := by
  simp [objRd, h, peel]

theorem cell_of {w : World} {b off : Nat} {cs : Array Value} {T : TypeId} {fr : Nat × Nat} (h : w.heap[b]? = some (.cells cs T fr)) : w.cell? ⟨b, off, none⟩ = cs[off]? := by
  simp [World.cell?, h]

def cvG (o ver p : Nat) : GC → CV
  | .d x => cvOf x
  | .row e ys => .gsl o ver p e 0 ys.length

theorem cvsG_get {o ver : Nat} : ∀ {p : Nat} {x : List GC} {k : Nat} {y : CV}, (cvsG o ver p x)[k]? = some y → ∃ g, x[k]? = some g ∧ y = cvG o ver (p + k) g
  | _, [], _, _, h => by simp [cvsG] at h
  | p, g :: r, 0, y, h => by
    refine ⟨g, rfl, ?_⟩
    cases g <;> simpa [cvsG, cvG] using h.symm
  | p, g :: r, k + 1, y, h => by
    have : (cvsG o ver (p + 1) r)[k]? = some y := by cases g <;> simpa [cvsG] using h
    obtain ⟨g', h1, h2⟩ := cvsG_get this
    exact ⟨g', by simpa using h1, by rw [h2, Nat.add_assoc, Nat.add_comm 1 k]⟩

theorem rel_cvG {c : Ctx} {objs : Objs} {w : World} {o ver p : Nat} {g : GC} {u : Value} (hk : Known objs o ver) (h : RelGC c w o p g u) : RelCV c objs w (cvG o ver p g) u := by
  cases g with
  | d x => exact rel_cvOf h
  | row e ys =>
    obtain ⟨a, cp, rfl, h1, _, h2⟩ := h
    exact ⟨rfl, hk, fun _ => ⟨a, cp, rfl, h1, fun h0 => by
      obtain ⟨b, base, cs, T, k1, k2, _⟩ := h2 h0
      exact ⟨b, base, k1, by simpa using k2⟩⟩⟩

theorem rowAt_some {e0 : Nat} {xs : List (List GC)} {p e : Nat} {ys : List (List DC)} (h : rowAt e0 xs p = some (e, ys)) : ∃ x, xs[p / e0]? = some x ∧ x[p % e0]? = some (.row e ys) := by
  unfold rowAt at h
  split at h
  · rename_i e' ys' hb
    obtain ⟨x, h1, h2⟩ := Option.bind_eq_some_iff.1 hb
    simp only [Option.some.injEq, Prod.mk.injEq] at h
    obtain ⟨rfl, rfl⟩ := h
    exact ⟨x, h1, h2⟩
  · cases h

theorem rowAt_rel {c : Ctx} {w : World} {o e0 base : Nat} {cs : Array Value} {xs : List (List GC)} {p e : Nat} {ys : List (List DC)} (_ : ∀ x ∈ xs, x.length = e0)
    (hg : ∀ (i j : Nat) g, (xs[i]?.bind (·[j]?)) = some g → ∃ u, cs[base + (i * e0 + j)]? = some u ∧ RelGC c w o (i * e0 + j) g u) (h : rowAt e0 xs p = some (e, ys)) : ∃ u, cs[base + p]? = some u ∧ RelGC c w o p (.row e ys) u := by
  obtain ⟨x, h1, h2⟩ := rowAt_some h
  obtain ⟨u, k1, k2⟩ := hg (p / e0) (p % e0) (.row e ys) (by simp [h1, h2])
  have e1 : p / e0 * e0 + p % e0 = p := by rw [Nat.mul_comm]; exact Nat.div_add_mod p e0
  rw [e1] at k1 k2
  exact ⟨u, k1, k2⟩

theorem run_loadX {P : Program} {t : TypeId} {T : TyI} (hT : TyFacts P t T) {c : Ctx} {objs : Objs} {w : World} {x : CV} {u : Value} {K : V1 → Prop}
    (hr : RelObjs c objs w) (h : loadX T objs x K) (hx : RelCV c objs w x u) :
    ∃ v z, (∀ w', SameOld w w' → (Instr.loadAt t u).run P w' = .ok v w') ∧ RelV1 c objs w z v ∧ K z := by
  unfold loadX at h
  split at h
  · rename_i o ver off
    split at h
    · rename_i cs hob
      obtain ⟨hob, hlive⟩ := objRd_ob hr hob
      obtain ⟨b, base, h1, rfl⟩ := hx.2.2 hlive
      obtain ⟨b', base', cs', T', g1, g2, g3, g4⟩ := hob
      rw [h1] at g1
      obtain ⟨rfl, rfl⟩ : b = b' ∧ base = base' := by simpa using g1
      have := run_takeX hT (c := c) (objs := objs) (w := w) (b := b) (o := base + off) h (fun j x hx => by
        obtain ⟨u, k1, k2⟩ := g4 _ x hx
        exact ⟨u, by rw [cell_of g2, ← k1]; congr 1; omega, k2⟩)
      simpa [Instr.loadAt, Instr.sureAddr] using this
    · exact h.elim
  · rename_i o ver e i j
    split at h
    · rename_i e' xs hob
      replace h := chkP_iff.1 h; obtain ⟨rfl, hlt, h⟩ := h
      obtain ⟨hob, hlive⟩ := objRd_ob hr hob
      obtain ⟨b, base, h1, rfl⟩ := hx.2.2 hlive
      rcases hob with ⟨g1, _⟩ | ⟨b', base', cs', T', g1, g2, g3, g4, g5⟩
      · rw [h1] at g1; cases g1
      · rw [h1] at g1
        obtain ⟨rfl, rfl⟩ : b = b' ∧ base = base' := by simpa using g1
        have hxi : xs[i]? = some xs[i] := List.getElem?_eq_getElem hlt
        have hK := h.all _ hxi
        have := run_takeX hT (c := c) (objs := objs) (w := w) (b := b) (o := base + (i * e + j)) hK (fun k x hx => by
          simp only [List.getElem?_map, Option.map_eq_some_iff] at hx
          obtain ⟨d, hd, rfl⟩ := hx
          obtain ⟨u, k1, k2⟩ := g5 i (j + k) d (by simp [hxi, hd])
          exact ⟨u, by rw [cell_of g2, ← k1]; congr 1; omega, rel_cvOf k2⟩)
        simpa [Instr.loadAt, Instr.sureAddr] using this
    · rename_i e' xs hob
      replace h := chkP_iff.1 h; obtain ⟨rfl, hlt, h⟩ := h
      obtain ⟨hob, hlive⟩ := objRd_ob hr hob
      have hkn := hx.2.1
      obtain ⟨b, base, h1, rfl⟩ := hx.2.2 hlive
      obtain ⟨b', base', cs', T', g1, g2, g3, g4, g5, _⟩ := hob
      rw [h1] at g1
      obtain ⟨rfl, rfl⟩ : b = b' ∧ base = base' := by simpa using g1
      have hxi : xs[i]? = some xs[i] := List.getElem?_eq_getElem hlt
      have hK := h.all _ hxi
      have := run_takeX hT (c := c) (objs := objs) (w := w) (b := b) (o := base + (i * e + j)) hK (fun k x hx => by
        obtain ⟨g, hg, rfl⟩ := cvsG_get hx
        obtain ⟨u, k1, k2⟩ := g5 i (j + k) g (by simp [hxi, hg])
        exact ⟨u, by rw [cell_of g2, ← k1]; congr 1; omega, rel_cvG hkn k2⟩)
      simpa [Instr.loadAt, Instr.sureAddr] using this
    · exact h.elim
  · rename_i o ver p e i j
    split at h
    · rename_i e0 xs hob
      obtain ⟨hob, hlive⟩ := objRd_ob hr hob
      obtain ⟨ys, hrow, hlt, h⟩ := h
      have hkn := hx.2.1
      obtain ⟨b, base, h1, rfl⟩ := hx.2.2 hlive
      obtain ⟨b0, base0, cs0, T0, g1, g2, g3, g4, g5, g6, g7⟩ := hob
      obtain ⟨u0, _, a, cp, rfl, k2, k3, k4⟩ := rowAt_rel g4 g5 hrow
      obtain ⟨b', base', cs, T', q1, q2, q3, q4, q5⟩ := k4 (by omega)
      rw [h1] at q1
      obtain ⟨rfl, rfl⟩ : b = b' ∧ base = base' := by simpa using q1
      have hyi : ys[i]? = some ys[i] := List.getElem?_eq_getElem hlt
      have hK := h.all _ hyi
      have := run_takeX hT (c := c) (objs := objs) (w := w) (b := b) (o := base + (i * e + j)) hK (fun k x hx => by
        simp only [List.getElem?_map, Option.map_eq_some_iff] at hx
        obtain ⟨d, hd, rfl⟩ := hx
        obtain ⟨u, k1, k2⟩ := q5 i (j + k) d (by simp [hyi, hd])
        exact ⟨u, by rw [cell_of q3, ← k1]; congr 1; omega, rel_cvOf k2⟩)
      simpa [Instr.loadAt, Instr.sureAddr] using this
    · exact h.elim
  · rename_i e xs i j
    obtain ⟨b, off, u', h1, h2, hlt, rfl⟩ := hx
    have hxi : xs[i]? = some xs[i] := List.getElem?_eq_getElem hlt
    have hK := h.all _ hxi
    cases h1 with
    | list _ _ a cap val hc hl hcell hrep =>
      simp only [Value.slice.injEq] at h2
      obtain ⟨rfl, _, _⟩ := h2
      have := run_takeX hT (c := c) (objs := objs) (w := w) (b := b) (o := off + (i * e + j)) hK (fun k x hx => by
        simp only [List.getElem?_map, Option.map_eq_some_iff] at hx
        obtain ⟨d, hd, rfl⟩ := hx
        have hlen : xs[i].length = e := hl _ (List.getElem_mem hlt)
        have hjk : j + k < e := by rw [← hlen]; exact (List.getElem?_eq_some_iff.1 hd).1
        obtain ⟨b', off', hb', _, hcl⟩ := hcell i (j + k) hlt hjk
        simp only [Option.some.injEq, Addr.mk.injEq, and_true] at hb'
        obtain ⟨rfl, rfl⟩ := hb'
        exact ⟨val i (j + k), by rw [← hcl]; congr 2; omega, rel_cvOf (hrep i (j + k) d (by simp [hxi, hd]))⟩)
      simpa [Instr.loadAt, Instr.sureAddr] using this
  · exact h.elim

end Go.Proofs.Ytbmaofepmheeeaa

/- The executor is sound: new objects, addresses, slices, appends. -/
import Derived.Test.YtbmaofepmheeeaaKe
namespace Go.Proofs.Ytbmaofepmheeeaa
open Go Go.RowKit

/-- The context with a place for object o. -/
def Ctx.at (c : Ctx) (o : Nat) (p : Option (Nat × Nat)) : Ctx := { φ := fun k => if k = o then p else c.φ k, R := c.R, ψ := fun k => if k = o then fun _ => none else c.ψ k }

theorem at_other {c : Ctx} {o k : Nat} {p : Option (Nat × Nat)} (h : k ≠ o) : (c.at o p).φ k = c.φ k ∧ (c.at o p).ψ k = c.ψ k := by simp [Ctx.at, h]

theorem has_at_other {c : Ctx} {o k b : Nat} {p : Option (Nat × Nat)} (h : k ≠ o) : (c.at o p).has k b ↔ c.has k b := by
  unfold Ctx.has; rw [(at_other h).1, (at_other h).2]

theorem has_at_self {c : Ctx} {o b : Nat} {p : Option (Nat × Nat)} : (c.at o p).has o b ↔ ∃ base, p = some (b, base) := by
  simp [Ctx.has, Ctx.at]

theorem heap_alloc_lt (w : World) (ob : Obj) {k : Nat} (h : k < w.heap.size) : (w.alloc ob).heap[k]? = w.heap[k]? := Below.heap_alloc w ob k h

theorem heap_alloc_new (w : World) (ob : Obj) : (w.alloc ob).heap[w.heap.size]? = some ob := by
  show (w.heap.push ob)[w.heap.size]? = _
  simp

theorem own_append {c : Ctx} {objs : Objs} {x : Nat × OB} {p : Option (Nat × Nat)} {b : Nat} (h : Own (c.at objs.length p) (objs ++ [x]) b) :
    Own c objs b ∨ ∃ base, p = some (b, base) := by
  obtain ⟨o, ver, bd, h1, h2, h3⟩ := h
  by_cases e : o < objs.length
  · rw [List.getElem?_append_left e] at h1
    exact .inl (.mk' h1 h2 ((has_at_other (by omega)).1 h3))
  · have hlt := (List.getElem?_eq_some_iff.1 h1).1
    simp at hlt
    obtain rfl : o = objs.length := by omega
    exact .inr (has_at_self.1 h3)

/-- What a new object makes of the objects: its block is nobody's. -/
theorem add_objs {c : Ctx} {objs : Objs} {w w' : World} {ver : Nat} {bd : OB} {p : Option (Nat × Nat)} (hr : RelObjs c objs w)
    (hE : Ext objs.length c objs w (c.at objs.length p) (objs ++ [(ver, bd)]) w') (hkeep : ∀ b, b < w.heap.size → w'.heap[b]? = w.heap[b]?)
    (hp : ∀ b base, p = some (b, base) → (∀ o ver bd, objs[o]? = some (ver, bd) → bd ≠ .dead → ¬ c.has o b) ∧ ¬ c.R b ∧ b < w'.heap.size)
    (hn : RelOB (c.at objs.length p) (objs ++ [(ver, bd)]) w' objs.length bd) :
    RelObjs (c.at objs.length p) (objs ++ [(ver, bd)]) w' := by
  have hcase : ∀ {o v b}, (objs ++ [(ver, bd)])[o]? = some (v, b) → (o < objs.length ∧ objs[o]? = some (v, b)) ∨ (o = objs.length ∧ v = ver ∧ b = bd) := by
    intro o v b h
    by_cases e : o < objs.length
    · rw [List.getElem?_append_left e] at h
      exact .inl ⟨e, h⟩
    · have hlt := (List.getElem?_eq_some_iff.1 h).1
      simp at hlt
      obtain rfl : o = objs.length := by omega
      simp at h
      exact .inr ⟨rfl, h.1.symm, h.2.symm⟩
  refine ⟨?_, ?_, ?_, ?_, ?_⟩
  · intro o v b h
    rcases hcase h with ⟨h1, h2⟩ | ⟨rfl, rfl, rfl⟩
    · by_cases hd : b = .dead
      · subst hd; exact trivial
      · exact RelOB.keep hE (Nat.le_refl _) hr (at_other (by omega)).1 (at_other (by omega)).2 (fun k hk => hkeep k (hr.lsize o v b k h2 hd hk)) (hr.ob o v b h2)
    · exact hn
  · intro o1 o2 v1 v2 b1 b2 b h1 h2 h3 h4 h5 h6
    rcases hcase h1 with ⟨k1, k2⟩ | ⟨rfl, _, _⟩ <;> rcases hcase h3 with ⟨m1, m2⟩ | ⟨rfl, _, _⟩
    · exact hr.inj o1 o2 v1 v2 b1 b2 b k2 h2 m2 h4 ((has_at_other (by omega)).1 h5) ((has_at_other (by omega)).1 h6)
    · obtain ⟨base, hb⟩ := has_at_self.1 h6
      exact ((hp b base hb).1 o1 v1 b1 k2 (OB.mine_live h2) ((has_at_other (by omega)).1 h5)).elim
    · obtain ⟨base, hb⟩ := has_at_self.1 h5
      exact ((hp b base hb).1 o2 v2 b2 m2 h4 ((has_at_other (by omega)).1 h6)).elim
    · rfl
  · intro b hb
    exact Nat.lt_of_lt_of_le (hr.rsize b hb) hE.size
  · intro o v b k h1 h2 h3
    rcases hcase h1 with ⟨k1, k2⟩ | ⟨rfl, _, _⟩
    · exact Nat.lt_of_lt_of_le (hr.lsize o v b k k2 h2 ((has_at_other (by omega)).1 h3)) hE.size
    · obtain ⟨base, hb⟩ := has_at_self.1 h3
      exact (hp k base hb).2.2
  · intro b hb
    rcases own_append hb with h | ⟨base, h⟩
    · exact hr.oR b h
    · exact (hp b base h).2.1

/-- A new block becomes a new object. -/
theorem new_ext {c : Ctx} {objs : Objs} {w : World} {ob : Obj} {x : Nat × OB} :
    Ext objs.length c objs w (c.at objs.length (some (w.heap.size, 0))) (objs ++ [x]) (w.alloc ob) := by
  refine ⟨by simp, rfl, rfl, rfl, fun b hb _ => heap_alloc_lt w ob hb, ?_, ?_, fun _ h => h, fun _ h => .inl h, ?_⟩
  · intro b cs T hb
    have : b < w.heap.size := (Array.getElem?_eq_some_iff.1 hb).1
    exact ⟨cs, (heap_alloc_lt w ob this).trans hb, rfl⟩
  · intro b hb
    rcases own_append hb with h | ⟨base, h⟩
    · exact .inl h
    · simp only [Option.some.injEq, Prod.mk.injEq] at h
      exact .inr (by omega)
  · intro o cur bd ho h1
    refine ⟨cur, bd, by rw [List.getElem?_append_left ho]; exact h1, Nat.le_refl _, fun _ h => ⟨h, (at_other (by omega)).1, fun p x hx => by rw [(at_other (by omega)).2]; exact hx⟩⟩

theorem new_objs {c : Ctx} {objs : Objs} {w : World} {ob : Obj} {ver : Nat} {bd : OB} (hr : RelObjs c objs w)
    (hn : RelOB (c.at objs.length (some (w.heap.size, 0))) (objs ++ [(ver, bd)]) (w.alloc ob) objs.length bd) :
    RelObjs (c.at objs.length (some (w.heap.size, 0))) (objs ++ [(ver, bd)]) (w.alloc ob) := by
  refine add_objs hr new_ext (fun b hb => heap_alloc_lt w ob hb) (fun b base h => ?_) hn
  simp only [Option.some.injEq, Prod.mk.injEq] at h
  refine ⟨fun o v bd2 h1 h2 h3 => ?_, fun hR => ?_, by simp; omega⟩
  · have := hr.lsize o v bd2 b h1 h2 h3; omega
  · have := hr.rsize b hR; omega

theorem alive_iff {objs : Objs} {o ver : Nat} (h : alive objs o ver) : Live objs o ver := by
  unfold alive aliveB at h
  split at h
  · cases h
  · rename_i b hb hob
    exact ⟨b, objAt_some hob, hb⟩
  · cases h

theorem objRd_live {objs : Objs} {o ver : Nat} {b : OB} (h : objRd objs o ver = some b) : Live objs o ver := by
  unfold objRd at h
  split at h
  · cases h
  · rename_i b' hb ho
    exact live_of_objAt ho hb
  · cases h

theorem run_box {P : Program} {c : Ctx} {objs : Objs} {w : World} {t : TypeId} {v : Value} {cs : List CV} (hr : RelObjs c objs w) (hv : RelCs c objs w cs v.cells.toList) :
    ∃ c' w', (Instr.box t v).run P w = .ok (.pointer (some ⟨w.heap.size, 0, none⟩)) w' ∧ Ext objs.length c objs w c' (objs ++ [(0, .box cs)]) w' ∧
      RelObjs c' (objs ++ [(0, .box cs)]) w' ∧ RelCV c' (objs ++ [(0, .box cs)]) w' (.ptr objs.length 0 0) (.pointer (some ⟨w.heap.size, 0, none⟩)) := by
  have hE := new_ext (c := c) (objs := objs) (w := w) (ob := .cells v.cells t (0, 0)) (x := (0, .box cs))
  refine ⟨_, w.alloc (.cells v.cells t (0, 0)), ?_, hE, new_objs hr ?_, ?_⟩
  · simp [Instr.box, newVar, newRow]
  · refine ⟨w.heap.size, 0, v.cells, t, by simp [Ctx.at], heap_alloc_new .., by have := hv.1; simp at this; omega, fun i x hx => ?_⟩
    obtain ⟨u, h1, h2⟩ := hv.2 i x hx
    exact ⟨u, by simpa using h1, hE.relCV (Nat.le_refl _) hr h2⟩
  · refine ⟨rfl, ⟨0, .box cs, by simp, Nat.le_refl _⟩, fun _ => ⟨w.heap.size, 0, by simp [Ctx.at], by simp⟩⟩

theorem run_alloc {P : Program} {t : TypeId} {T : TyI} (hT : TyFacts P t T) {c : Ctx} {objs : Objs} {w : World} (hr : RelObjs c objs w) :
    ∃ c' w', (Instr.alloc t true (.tuple #[])).run P w = .ok (.pointer (some ⟨w.heap.size, 0, none⟩)) w' ∧ Ext objs.length c objs w c' (objs ++ [(0, .box T.zero)]) w' ∧
      RelObjs c' (objs ++ [(0, .box T.zero)]) w' ∧ RelCV c' (objs ++ [(0, .box T.zero)]) w' (.ptr objs.length 0 0) (.pointer (some ⟨w.heap.size, 0, none⟩)) := by
  have hz : RelCs c objs w T.zero hT.z.cells.toList := by
    rw [hT.zeros]
    refine ⟨by simp, fun i x hx => ?_⟩
    simp only [List.getElem?_map, Option.map_eq_some_iff] at hx
    obtain ⟨u, h1, rfl⟩ := hx
    exact ⟨u, h1, rel_constCV _ _ _ _ (hT.ones u (List.mem_of_getElem? h1))⟩
  obtain ⟨c', w', h1, h2⟩ := run_box (P := P) (t := t) (v := hT.z) hr hz
  refine ⟨c', w', ?_, h2⟩
  rw [← h1]
  simp [Instr.alloc, Instr.box, hT.run_zero]

theorem mapM_get {α β : Type} {g : α → Option β} : ∀ {l : List α} {r : List β}, l.mapM g = some r → ∀ i : Nat, r[i]? = (l[i]?).bind g
  | [], r, h, i => by simp at h; subst h; simp
  | x :: l, r, h, i => by
    simp only [List.mapM_cons, Option.bind_eq_bind, Option.pure_def] at h
    cases hg : g x with
    | none => simp [hg] at h
    | some y =>
      cases hr : l.mapM g with
      | none => simp [hg, hr] at h
      | some r' =>
        simp [hg, hr] at h
        subst h
        cases i with
        | zero => simp [hg]
        | succ i => simpa using mapM_get hr i

theorem und_of_kind_struct {P : Program} {t : TypeId} {T : TyI} (hT : TyFacts P t T) {fs : List (Nat × Nat)} (h : T.kind = .struct fs) :
    ∃ fields, P.underlying t = some (.struct fields) ∧ fields.toList.mapM (fun f => (P.info? f.type).map fun i => (f.offset, i.size)) = some fs := by
  rw [hT.kind] at h
  unfold kindX at h
  split at h <;> first | (cases h; done) | skip
  rename_i fields hf
  split at h <;> first | (cases h; done) | skip
  rename_i ps hps
  cases h
  exact ⟨fields, hf, hps⟩

theorem und_of_kind_slice {P : Program} {t : TypeId} {T : TyI} (hT : TyFacts P t T) {e : TypeId} (h : T.kind = .slice e) : P.underlying t = some (.slice e) := by
  rw [hT.kind] at h
  unfold kindX at h
  split at h <;> first | (cases h; done) | (split at h <;> cases h; done) | (rename_i hf; cases h; exact hf)

theorem und_of_kind_array {P : Program} {t : TypeId} {T : TyI} (hT : TyFacts P t T) {n : Nat} {e : TypeId} (h : T.kind = .array n e) : P.underlying t = some (.array n e) := by
  rw [hT.kind] at h
  unfold kindX at h
  split at h <;> first | (cases h; done) | (split at h <;> cases h; done) | (rename_i hf; cases h; exact hf)

theorem und_of_kind_bool {P : Program} {t : TypeId} {T : TyI} (hT : TyFacts P t T) (h : T.kind = .bool) : P.underlying t = some .bool := by
  rw [hT.kind] at h
  unfold kindX at h
  split at h <;> first | (cases h; done) | (split at h <;> cases h; done) | assumption

theorem run_fieldAt {P : Program} {t : TypeId} {T : TyI} (hT : TyFacts P t T) {fs : List (Nat × Nat)} (hk : T.kind = .struct fs) {f off n b o : Nat} (hf : fs[f]? = some (off, n)) (hn : n ≠ 0) (w : World) :
    (Instr.fieldAt t (.pointer (some ⟨b, o, none⟩)) f).run P w = .ok (.pointer (some ⟨b, o + off, none⟩)) w := by
  obtain ⟨fields, h1, hm⟩ := und_of_kind_struct hT hk
  rw [mapM_get hm] at hf
  simp only [Option.bind_eq_some_iff, Option.map_eq_some_iff] at hf
  obtain ⟨fd, h2, i, hi, h3⟩ := hf
  have h2' : fields[f]? = some fd := by simpa using h2
  simp only [Prod.mk.injEq] at h3
  obtain ⟨rfl, h5⟩ := h3
  · simp [Instr.fieldAt, run_underlying h1, h2', Instr.sureAddr, fieldPlace, sizeOf, typeInfo, hi, h5, hn, add_none]

theorem run_fieldX {P : Program} {t : TypeId} {T : TyI} (hT : TyFacts P t T) {c : Ctx} {objs : Objs} {w : World} {x : CV} {u : Value} {f : Nat} {K : CV → Prop}
    (h : fieldX T objs x f K) (hx : RelCV c objs w x u) :
    ∃ v z, (∀ w', SameOld w w' → (Instr.fieldAt t u f).run P w' = .ok v w') ∧ RelCV c objs w z v ∧ K z := by
  unfold fieldX at h
  split at h
  · rename_i fs hk
    split at h
    · rename_i off n hf
      replace h := chkP_iff.1 h; obtain ⟨hn, h⟩ := h
      split at h
      · rename_i o ver p
        replace h := chkP_iff.1 h; obtain ⟨ha, h⟩ := h
        obtain ⟨h1, h2, h3⟩ := hx
        obtain ⟨b, base, h4, rfl⟩ := h3 (alive_iff ha)
        exact ⟨_, .ptr o ver (p + off), fun w' _ => run_fieldAt hT hk hf hn w', ⟨rfl, h2, fun _ => ⟨b, base, h4, by rw [Nat.add_assoc]⟩⟩, h⟩
      · rename_i o ver e i j
        replace h := chkP_iff.1 h; obtain ⟨ha, h⟩ := h
        obtain ⟨h1, h2, h3⟩ := hx
        obtain ⟨b, base, h4, rfl⟩ := h3 (alive_iff ha)
        exact ⟨_, .eptr o ver e i (j + off), fun w' _ => run_fieldAt hT hk hf hn w', ⟨rfl, h2, fun _ => ⟨b, base, h4, by rw [Nat.add_assoc, Nat.add_assoc]⟩⟩, h⟩
      · rename_i o ver q e i j
        replace h := chkP_iff.1 h; obtain ⟨ha, h⟩ := h
        obtain ⟨h1, h2, h3⟩ := hx
        obtain ⟨b, base, h4, rfl⟩ := h3 (alive_iff ha)
        exact ⟨_, .gptr o ver q e i (j + off), fun w' _ => run_fieldAt hT hk hf hn w', ⟨rfl, h2, fun _ => ⟨b, base, h4, by rw [Nat.add_assoc, Nat.add_assoc]⟩⟩, h⟩
      · rename_i e xs i j
        obtain ⟨b, o, u', h1, h2, h3, rfl⟩ := hx
        exact ⟨_, .ip e xs i (j + off), fun w' _ => run_fieldAt hT hk hf hn w', ⟨b, o, u', h1, h2, h3, by rw [Nat.add_assoc, Nat.add_assoc]⟩, h⟩
      · exact h.elim
    · exact h.elim
  · exact h.elim

theorem Rep.slice_form {w : World} {R : Nat → Prop} {e : Nat} {xs : List (List DC)} {u : Value} (h : Rep w R (.list e xs) u) : ∃ a cap, u = .slice a xs.length cap ∧ xs.length ≤ cap := by
  cases h with
  | list _ _ a cap val hc => exact ⟨a, cap, rfl, hc⟩

/-- A list's representation at a place: with just as much room as it has elements. -/
theorem Rep.at_elem {w : World} {R : Nat → Prop} {e : Nat} {xs : List (List DC)} {u : Value} (h : Rep w R (.list e xs) u) (he : 0 < e) (hx : 0 < xs.length) :
    ∃ b off cap, u = .slice (some ⟨b, off, none⟩) xs.length cap ∧ Rep w R (.list e xs) (.slice (some ⟨b, off, none⟩) xs.length xs.length) := by
  cases h with
  | list _ _ a cap val hc hl hcell hrep =>
    obtain ⟨b, off, rfl, _, _⟩ := hcell 0 0 hx he
    exact ⟨b, off, cap, rfl, .list e xs _ _ val (Nat.le_refl _) hl hcell hrep⟩

theorem run_indexAt_slice' {P : Program} {t e : TypeId} {E : TyI} (hu : P.underlying t = some (.slice e)) (hE : TyFacts P e E) (w : World) {b o len cap : Nat} {k : IntKind} {i : Int} (h0 : 0 ≤ i) (h1 : i < len) :
    (Instr.indexAt t (.slice (some ⟨b, o, none⟩) len cap) (.int k i)).run P w = .ok (.pointer (some ⟨b, o + i.toNat * E.size, none⟩)) w := by
  simp [Instr.indexAt, asIntOf, run_underlying hu, h0, h1, hE.run_sizeOf, add_none]

theorem run_indexAt_array' {P : Program} {t e : TypeId} {n : Nat} {E : TyI} (hu : P.underlying t = some (.array n e)) (hE : TyFacts P e E) (w : World) {b o : Nat} {k : IntKind} {i : Int} (h0 : 0 ≤ i) (h1 : i < n) :
    (Instr.indexAt t (.pointer (some ⟨b, o, none⟩)) (.int k i)).run P w = .ok (.pointer (some ⟨b, o + i.toNat * E.size, none⟩)) w := by
  simp [Instr.indexAt, asIntOf, run_underlying hu, Instr.sureAddr, h0, h1, hE.run_sizeOf, add_none]

theorem run_indexX {P : Program} {t e : TypeId} {T E : TyI} (hT : TyFacts P t T) (hk : T.kind = .slice e) (hE : TyFacts P e E) {c : Ctx} {objs : Objs} {w : World} {x i : CV} {u v : Value} {K : CV → Prop}
    (h : indexX T E.size objs x i K) (hpos : 0 < E.size) (hx : RelCV c objs w x u) (hi : RelCV c objs w i v) :
    ∃ r z, (∀ w', SameOld w w' → (Instr.indexAt t u v).run P w' = .ok r w') ∧ RelCV c objs w z r ∧ K z := by
  have hu := und_of_kind_slice hT hk
  unfold indexX at h
  rw [hk] at h
  split at h
  · rename_i k n heq
    obtain rfl := Rep.v_inv hi
    split at h
    · rename_i o ver e' off len cap
      split at h
      · rename_i ee xs hob
        replace h := chkP_iff.1 h; obtain ⟨he, h0, h1, h⟩ := h
        have hlive := objRd_live hob
        obtain ⟨hone, hkn, hx⟩ := hx
        obtain ⟨a, cp, rfl, h2, h3, h4⟩ := hx hlive
        obtain ⟨b, base, cs, T', g1, rfl, g3, g4⟩ := h4 (by omega)
        refine ⟨_, .eptr o ver e' (off + n.toNat) 0, fun w' _ => run_indexAt_slice' hu hE w' h0 h1, ⟨rfl, hkn, fun _ => ⟨b, base, g1, ?_⟩⟩, h⟩
        rw [he, Nat.add_mul, Nat.add_zero, Nat.add_assoc]
      · rename_i ee xs hob
        replace h := chkP_iff.1 h; obtain ⟨he, h0, h1, h⟩ := h
        have hlive := objRd_live hob
        obtain ⟨hone, hkn, hx⟩ := hx
        obtain ⟨a, cp, rfl, h2, h3, h4⟩ := hx hlive
        obtain ⟨b, base, cs, T', g1, rfl, g3, g4⟩ := h4 (by omega)
        refine ⟨_, .eptr o ver e' (off + n.toNat) 0, fun w' _ => run_indexAt_slice' hu hE w' h0 h1, ⟨rfl, hkn, fun _ => ⟨b, base, g1, ?_⟩⟩, h⟩
        rw [he, Nat.add_mul, Nat.add_zero, Nat.add_assoc]
      · exact h.elim
    · rename_i o ver p e' off len
      replace h := chkP_iff.1 h; obtain ⟨hal, h⟩ := h
      replace h := chkP_iff.1 h; obtain ⟨he, h0, h1, h⟩ := h
      obtain ⟨hone, hkn, hx⟩ := hx
      obtain ⟨a, cp, rfl, h2, h4⟩ := hx (alive_iff hal)
      obtain ⟨b, base, g1, rfl⟩ := h4 (by omega)
      refine ⟨_, .gptr o ver p e' (off + n.toNat) 0, fun w' _ => run_indexAt_slice' hu hE w' h0 h1, ⟨rfl, hkn, fun _ => ⟨b, base, g1, ?_⟩⟩, h⟩
      rw [he, Nat.add_mul, Nat.add_zero, Nat.add_assoc]
    · rename_i e' xs
      replace h := chkP_iff.1 h; obtain ⟨he, h0, h1, h⟩ := h
      obtain ⟨b, off, cap, rfl, hrep⟩ := Rep.at_elem hx (by omega) (by omega)
      refine ⟨_, .ip e' xs n.toNat 0, fun w' _ => run_indexAt_slice' hu hE w' h0 h1, ⟨b, off, _, hrep, rfl, by omega, ?_⟩, h⟩
      rw [he, Nat.add_zero]
    · exact h.elim
  · rename_i heq; cases heq
  · exact h.elim

theorem run_indexX_array {P : Program} {t e : TypeId} {n : Nat} {T E : TyI} (hT : TyFacts P t T) (hk : T.kind = .array n e) (hE : TyFacts P e E) {c : Ctx} {objs : Objs} {w : World} {x i : CV} {u v : Value} {K : CV → Prop}
    (h : indexX T E.size objs x i K) (hx : RelCV c objs w x u) (hi : RelCV c objs w i v) :
    ∃ r z, (∀ w', SameOld w w' → (Instr.indexAt t u v).run P w' = .ok r w') ∧ RelCV c objs w z r ∧ K z := by
  have hu := und_of_kind_array hT hk
  unfold indexX at h
  rw [hk] at h
  split at h
  · rename_i heq; cases heq
  · rename_i n' e' k m heq
    cases heq
    obtain rfl := Rep.v_inv hi
    split at h
    · rename_i o ver off
      replace h := chkP_iff.1 h; obtain ⟨ha, h0, h1, h⟩ := h
      obtain ⟨hone, hkn, hx⟩ := hx
      obtain ⟨b, base, g1, rfl⟩ := hx (alive_iff ha)
      exact ⟨_, .ptr o ver (off + m.toNat * E.size), fun w' _ => run_indexAt_array' hu hE w' h0 h1, ⟨rfl, hkn, fun _ => ⟨b, base, g1, by rw [Nat.add_assoc]⟩⟩, h⟩
    · exact h.elim
  · exact h.elim

end Go.Proofs.Ytbmaofepmheeeaa

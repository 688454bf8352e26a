/- The executor is sound: new objects, addresses, slices, appends. -/
import Derived.Test.YtmfdkjjhdjkgpaaQZa
import Derived.Great.BuildSlice
namespace Go.Proofs.Ytmfdkjjhdjkgpaa
open Go Go.RowKit

/-- The context with a place for object o. -/
def Ctx.at (c : Ctx) (o : Nat) (p : Option (Nat × Nat)) : Ctx := { φ := fun k => if k = o then p else c.φ k, R := c.R, ψ := fun k => if k = o then fun _ => none else c.ψ k }

theorem at_other {c : Ctx} {o k : Nat} {p : Option (Nat × Nat)} (h : k ≠ o) : (c.at o p).φ k = c.φ k ∧ (c.at o p).ψ k = c.ψ k := by simp [Ctx.at, h]

theorem has_at_other {c : Ctx} {o k b : Nat} {p : Option (Nat × Nat)} (h : k ≠ o) : (c.at o p).has k b ↔ c.has k b := by
  unfold Ctx.has; rw [(at_other h).1, (at_other h).2]

theorem has_at_self {c : Ctx} {o b : Nat} {p : Option (Nat × Nat)} : (c.at o p).has o b ↔ ∃ base, p = some (b, base) := by
  simp [Ctx.has, Ctx.at]

theorem heap_alloc_lt (w : World) (ob : Obj) {k : Nat} (h : k < w.heap.size) : (w.alloc ob).heap[k]? = w.heap[k]? := Below.heap_alloc w ob k h

theorem heap_alloc_new (w : World) (ob : Obj) : (w.alloc ob).heap[w.heap.size]? = some ob := by
  show (w.heap.push ob)[w.heap.size]? = _
  simp

theorem own_append {c : Ctx} {objs : Objs} {x : Nat × OB} {p : Option (Nat × Nat)} {b : Nat} (h : Own (c.at objs.length p) (objs ++ [x]) b) :
    Own c objs b ∨ ∃ base, p = some (b, base) := by
  obtain ⟨o, ver, bd, h1, h2, h3⟩ := h
  by_cases e : o < objs.length
  · rw [List.getElem?_append_left e] at h1
    exact .inl (.mk' h1 h2 ((has_at_other (by omega)).1 h3))
  · have hlt := (List.getElem?_eq_some_iff.1 h1).1
    simp at hlt
    obtain rfl : o = objs.length := by omega
    exact .inr (has_at_self.1 h3)

/-- What a new object makes of the objects: its block is nobody's. -/
theorem add_objs {c : Ctx} {objs : Objs} {w w' : World} {ver : Nat} {bd : OB} {p : Option (Nat × Nat)} (hr : RelObjs c objs w)
    (hE : Ext objs.length c objs w (c.at objs.length p) (objs ++ [(ver, bd)]) w') (hkeep : ∀ b, b < w.heap.size → w'.heap[b]? = w.heap[b]?)
    (hp : ∀ b base, p = some (b, base) → (∀ o ver bd, objs[o]? = some (ver, bd) → bd ≠ .dead → ¬ c.has o b) ∧ ¬ c.R b ∧ b < w'.heap.size)
    (hn : RelOB (c.at objs.length p) (objs ++ [(ver, bd)]) w' objs.length bd) :
    RelObjs (c.at objs.length p) (objs ++ [(ver, bd)]) w' := by
  have hcase : ∀ {o v b}, (objs ++ [(ver, bd)])[o]? = some (v, b) → (o < objs.length ∧ objs[o]? = some (v, b)) ∨ (o = objs.length ∧ v = ver ∧ b = bd) := by
    intro o v b h
    by_cases e : o < objs.length
    · rw [List.getElem?_append_left e] at h
      exact .inl ⟨e, h⟩
    · have hlt := (List.getElem?_eq_some_iff.1 h).1
      simp at hlt
      obtain rfl : o = objs.length := by omega
      simp at h
      exact .inr ⟨rfl, h.1.symm, h.2.symm⟩
  refine ⟨?_, ?_, ?_, ?_, ?_⟩
  · intro o v b h
    rcases hcase h with ⟨h1, h2⟩ | ⟨rfl, rfl, rfl⟩
    · by_cases hd : b = .dead
      · subst hd; exact trivial
      · exact RelOB.keep hE (Nat.le_refl _) hr (at_other (by omega)).1 (at_other (by omega)).2 (fun k hk => hkeep k (hr.lsize o v b k h2 hd hk)) (hr.ob o v b h2)
    · exact hn
  · intro o1 o2 v1 v2 b1 b2 b h1 h2 h3 h4 h5 h6
    rcases hcase h1 with ⟨k1, k2⟩ | ⟨rfl, _, _⟩ <;> rcases hcase h3 with ⟨m1, m2⟩ | ⟨rfl, _, _⟩
    · exact hr.inj o1 o2 v1 v2 b1 b2 b k2 h2 m2 h4 ((has_at_other (by omega)).1 h5) ((has_at_other (by omega)).1 h6)
    · obtain ⟨base, hb⟩ := has_at_self.1 h6
      exact ((hp b base hb).1 o1 v1 b1 k2 (OB.mine_live h2) ((has_at_other (by omega)).1 h5)).elim
    · obtain ⟨base, hb⟩ := has_at_self.1 h5
      exact ((hp b base hb).1 o2 v2 b2 m2 h4 ((has_at_other (by omega)).1 h6)).elim
    · rfl
  · intro b hb
    exact Nat.lt_of_lt_of_le (hr.rsize b hb) hE.size
  · intro o v b k h1 h2 h3
    rcases hcase h1 with ⟨k1, k2⟩ | ⟨rfl, _, _⟩
    · exact Nat.lt_of_lt_of_le (hr.lsize o v b k k2 h2 ((has_at_other (by omega)).1 h3)) hE.size
    · obtain ⟨base, hb⟩ := has_at_self.1 h3
      exact (hp k base hb).2.2
  · intro b hb
    rcases own_append hb with h | ⟨base, h⟩
    · exact hr.oR b h
    · exact (hp b base h).2.1

/-- A new block becomes a new object. -/
theorem new_ext {c : Ctx} {objs : Objs} {w : World} {ob : Obj} {x : Nat × OB} :
    Ext objs.length c objs w (c.at objs.length (some (w.heap.size, 0))) (objs ++ [x]) (w.alloc ob) := by
  refine ⟨by simp, rfl, rfl, rfl, fun b hb _ => heap_alloc_lt w ob hb, ?_, ?_, fun _ h => h, fun _ h => .inl h, ?_⟩
  · intro b cs T hb
    have : b < w.heap.size := (Array.getElem?_eq_some_iff.1 hb).1
    exact ⟨cs, (heap_alloc_lt w ob this).trans hb, rfl⟩
  · intro b hb
    rcases own_append hb with h | ⟨base, h⟩
    · exact .inl h
    · simp only [Option.some.injEq, Prod.mk.injEq] at h
      exact .inr (by omega)
  · intro o cur bd ho h1
    refine ⟨cur, bd, by rw [List.getElem?_append_left ho]; exact h1, Nat.le_refl _, fun _ h => ⟨h, (at_other (by omega)).1, fun p x hx => by rw [(at_other (by omega)).2]; exact hx⟩⟩

theorem new_objs {c : Ctx} {objs : Objs} {w : World} {ob : Obj} {ver : Nat} {bd : OB} (hr : RelObjs c objs w)
    (hn : RelOB (c.at objs.length (some (w.heap.size, 0))) (objs ++ [(ver, bd)]) (w.alloc ob) objs.length bd) :
    RelObjs (c.at objs.length (some (w.heap.size, 0))) (objs ++ [(ver, bd)]) (w.alloc ob) := by
  refine add_objs hr new_ext (fun b hb => heap_alloc_lt w ob hb) (fun b base h => ?_) hn
  simp only [Option.some.injEq, Prod.mk.injEq] at h
  refine ⟨fun o v bd2 h1 h2 h3 => ?_, fun hR => ?_, by simp; omega⟩
  · have := hr.lsize o v bd2 b h1 h2 h3; omega
  · have := hr.rsize b hR; omega

theorem alive_iff {objs : Objs} {o ver : Nat} (h : alive objs o ver) : Live objs o ver := by
  unfold alive aliveB at h
  split at h
  · cases h
  · rename_i b hb hob
    exact ⟨b, objAt_some hob, hb⟩
  · cases h

theorem objRd_live {objs : Objs} {o ver : Nat} {b : OB} (h : objRd objs o ver = some b) : Live objs o ver := by
  unfold objRd at h
  split at h
  · cases h
  · rename_i b' hb ho
    exact live_of_objAt ho hb
  · cases h

theorem run_box {P : Program} {c : Ctx} {objs : Objs} {w : World} {t : TypeId} {v : Value} {cs : List CV} (hr : RelObjs c objs w) (hv : RelCs c objs w cs v.cells.toList) :
    ∃ c' w', (Instr.box t v).run P w = .ok (.pointer (some ⟨w.heap.size, 0, none⟩)) w' ∧ Ext objs.length c objs w c' (objs ++ [(0, .box cs)]) w' ∧
      RelObjs c' (objs ++ [(0, .box cs)]) w' ∧ RelCV c' (objs ++ [(0, .box cs)]) w' (.ptr objs.length 0 0) (.pointer (some ⟨w.heap.size, 0, none⟩)) := by
  have hE := new_ext (c := c) (objs := objs) (w := w) (ob := .cells v.cells t (0, 0)) (x := (0, .box cs))
  refine ⟨_, w.alloc (.cells v.cells t (0, 0)), ?_, hE, new_objs hr ?_, ?_⟩
  · simp [Instr.box, newVar, newRow]
  · refine ⟨w.heap.size, 0, v.cells, t, by simp [Ctx.at], heap_alloc_new .., by have := hv.1; simp at this; omega, fun i x hx => ?_⟩
    obtain ⟨u, h1, h2⟩ := hv.2 i x hx
    exact ⟨u, by simpa using h1, hE.relCV (Nat.le_refl _) hr h2⟩
  · refine ⟨rfl, ⟨0, .box cs, by simp, Nat.le_refl _⟩, fun _ => ⟨w.heap.size, 0, by simp [Ctx.at], by simp⟩⟩

theorem run_alloc {P : Program} {t : TypeId} {T : TyI} (hT : TyFacts P t T) {c : Ctx} {objs : Objs} {w : World} (hr : RelObjs c objs w) :
    ∃ c' w', (Instr.alloc t true (.tuple #[])).run P w = .ok (.pointer (some ⟨w.heap.size, 0, none⟩)) w' ∧ Ext objs.length c objs w c' (objs ++ [(0, .box T.zero)]) w' ∧
      RelObjs c' (objs ++ [(0, .box T.zero)]) w' ∧ RelCV c' (objs ++ [(0, .box T.zero)]) w' (.ptr objs.length 0 0) (.pointer (some ⟨w.heap.size, 0, none⟩)) := by
  have hz : RelCs c objs w T.zero hT.z.cells.toList := by
    rw [hT.zeros]
    refine ⟨by simp, fun i x hx => ?_⟩
    simp only [List.getElem?_map, Option.map_eq_some_iff] at hx
    obtain ⟨u, h1, rfl⟩ := hx
    exact ⟨u, h1, rel_constCV _ _ _ _ (hT.ones u (List.mem_of_getElem? h1))⟩
  obtain ⟨c', w', h1, h2⟩ := run_box (P := P) (t := t) (v := hT.z) hr hz
  refine ⟨c', w', ?_, h2⟩
  rw [← h1]
  simp [Instr.alloc, Instr.box, hT.run_zero]

theorem mapM_get {α β : Type} {g : α → Option β} : ∀ {l : List α} {r : List β}, l.mapM g = some r → ∀ i : Nat, r[i]? = (l[i]?).bind g
  | [], r, h, i => by simp at h; subst h; simp
  | x :: l, r, h, i => by
    simp only [List.mapM_cons, Option.bind_eq_bind, Option.pure_def] at h
    cases hg : g x with
    | none => simp [hg] at h
    | some y =>
      cases hr : l.mapM g with
      | none => simp [hg, hr] at h
      | some r' =>
        simp [hg, hr] at h
        subst h
        cases i with
        | zero => simp [hg]
        | succ i => simpa using mapM_get hr i

theorem und_of_kind_struct {P : Program} {t : TypeId} {T : TyI} (hT : TyFacts P t T) {fs : List (Nat × Nat)} (h : T.kind = .struct fs) :
    ∃ fields, P.underlying t = some (.struct fields) ∧ fields.toList.mapM (fun f => (P.info? f.type).map fun i => (f.offset, i.size)) = some fs := by
  rw [hT.kind] at h
  unfold kindX at h
  split at h <;> first | (cases h; done) | skip
  rename_i fields hf
  split at h <;> first | (cases h; done) | skip
  rename_i ps hps
  cases h
  exact ⟨fields, hf, hps⟩

theorem und_of_kind_slice {P : Program} {t : TypeId} {T : TyI} (hT : TyFacts P t T) {e : TypeId} (h : T.kind = .slice e) : P.underlying t = some (.slice e) := by
  rw [hT.kind] at h
  unfold kindX at h
  split at h <;> first | (cases h; done) | (split at h <;> cases h; done) | (rename_i hf; cases h; exact hf)

theorem und_of_kind_array {P : Program} {t : TypeId} {T : TyI} (hT : TyFacts P t T) {n : Nat} {e : TypeId} (h : T.kind = .array n e) : P.underlying t = some (.array n e) := by
  rw [hT.kind] at h
  unfold kindX at h
  split at h <;> first | (cases h; done) | (split at h <;> cases h; done) | (rename_i hf; cases h; exact hf)

theorem und_of_kind_int {P : Program} {t : TypeId} {T : TyI} (hT : TyFacts P t T) {k : IntKind} (h : T.kind = .int k) : P.underlying t = some (.int k) := by
  rw [hT.kind] at h
  unfold kindX at h
  split at h <;> first | (cases h; done) | (split at h <;> cases h; done) | (rename_i hf; cases h; exact hf)

theorem run_convert_ints {P : Program} (w : World) (src dst : TypeId) (q k : IntKind) (n : Int) (hs : (P.underlying src).isSome = true) (hd : P.underlying dst = some (.int k)) :
    (convert src dst (.int q n)).run P w = .ok (.int k (k.wrap n)) w := by
  obtain ⟨s, hs'⟩ := Option.isSome_iff_exists.1 hs
  cases s <;> simp [convert, run_underlying hs', run_underlying hd, Conv.intToInt]

theorem und_of_kind_bool {P : Program} {t : TypeId} {T : TyI} (hT : TyFacts P t T) (h : T.kind = .bool) : P.underlying t = some .bool := by
  rw [hT.kind] at h
  unfold kindX at h
  split at h <;> first | (cases h; done) | (split at h <;> cases h; done) | assumption

theorem run_fieldAt {P : Program} {t : TypeId} {T : TyI} (hT : TyFacts P t T) {fs : List (Nat × Nat)} (hk : T.kind = .struct fs) {f off n b o : Nat} (hf : fs[f]? = some (off, n)) (hn : n ≠ 0) (w : World) :
    (Instr.fieldAt t (.pointer (some ⟨b, o, none⟩)) f).run P w = .ok (.pointer (some ⟨b, o + off, none⟩)) w := by
  obtain ⟨fields, h1, hm⟩ := und_of_kind_struct hT hk
  rw [mapM_get hm] at hf
  simp only [Option.bind_eq_some_iff, Option.map_eq_some_iff] at hf
  obtain ⟨fd, h2, i, hi, h3⟩ := hf
  have h2' : fields[f]? = some fd := by simpa using h2
  simp only [Prod.mk.injEq] at h3
  obtain ⟨rfl, h5⟩ := h3
  · simp [Instr.fieldAt, run_underlying h1, h2', Instr.sureAddr, fieldPlace, sizeOf, typeInfo, hi, h5, hn, add_none]

theorem run_fieldX' {P : Program} {t : TypeId} {T : TyI} (hT : TyFacts P t T) {c : Ctx} {objs : Objs} {w : World} {x : CV} {u : Value} {f : Nat} {K : CV → Prop}
    (h : fieldX T objs x f K) (hx : RelCV c objs w x u) :
    ∃ v z, (∀ w', (Instr.fieldAt t u f).run P w' = .ok v w') ∧ RelCV c objs w z v ∧ K z := by
  unfold fieldX at h
  split at h
  · rename_i fs hk
    split at h
    · rename_i off n hf
      replace h := chkP_iff.1 h; obtain ⟨hn, h⟩ := h
      split at h
      · rename_i o ver p
        replace h := chkP_iff.1 h; obtain ⟨ha, h⟩ := h
        obtain ⟨h1, h2, h3⟩ := hx
        obtain ⟨b, base, h4, rfl⟩ := h3 (alive_iff ha)
        exact ⟨_, .ptr o ver (p + off), fun w' => run_fieldAt hT hk hf hn w', ⟨rfl, h2, fun _ => ⟨b, base, h4, by rw [Nat.add_assoc]⟩⟩, h⟩
      · rename_i o ver e i j
        replace h := chkP_iff.1 h; obtain ⟨ha, h⟩ := h
        obtain ⟨h1, h2, h3⟩ := hx
        obtain ⟨b, base, h4, rfl⟩ := h3 (alive_iff ha)
        exact ⟨_, .eptr o ver e i (j + off), fun w' => run_fieldAt hT hk hf hn w', ⟨rfl, h2, fun _ => ⟨b, base, h4, by rw [Nat.add_assoc, Nat.add_assoc]⟩⟩, h⟩
      · rename_i o ver q e i j
        replace h := chkP_iff.1 h; obtain ⟨ha, h⟩ := h
        obtain ⟨h1, h2, h3⟩ := hx
        obtain ⟨b, base, h4, rfl⟩ := h3 (alive_iff ha)
        exact ⟨_, .gptr o ver q e i (j + off), fun w' => run_fieldAt hT hk hf hn w', ⟨rfl, h2, fun _ => ⟨b, base, h4, by rw [Nat.add_assoc, Nat.add_assoc]⟩⟩, h⟩
      · rename_i e xs i j
        obtain ⟨b, o, u', h1, h2, h3, rfl⟩ := hx
        exact ⟨_, .ip e xs i (j + off), fun w' => run_fieldAt hT hk hf hn w', ⟨b, o, u', h1, h2, h3, by rw [Nat.add_assoc, Nat.add_assoc]⟩, h⟩
      · exact h.elim
    · exact h.elim
  · exact h.elim

theorem run_fieldX {P : Program} {t : TypeId} {T : TyI} (hT : TyFacts P t T) {c : Ctx} {objs : Objs} {w : World} {x : CV} {u : Value} {f : Nat} {K : CV → Prop}
    (h : fieldX T objs x f K) (hx : RelCV c objs w x u) :
    ∃ v z, (∀ w', SameOld w w' → (Instr.fieldAt t u f).run P w' = .ok v w') ∧ RelCV c objs w z v ∧ K z := by
  obtain ⟨v, z, h1, h2⟩ := run_fieldX' hT h hx
  exact ⟨v, z, fun w' _ => h1 w', h2⟩

theorem Rep.slice_form {w : World} {R : Nat → Prop} {e : Nat} {xs : List (List DC)} {u : Value} (h : Rep w R (.list e xs) u) : ∃ a cap, u = .slice a xs.length cap ∧ xs.length ≤ cap := by
  cases h with
  | list _ _ a cap val hc => exact ⟨a, cap, rfl, hc⟩

/-- A list's representation at a place: with just as much room as it has elements. -/
theorem Rep.at_elem {w : World} {R : Nat → Prop} {e : Nat} {xs : List (List DC)} {u : Value} (h : Rep w R (.list e xs) u) (he : 0 < e) (hx : 0 < xs.length) :
    ∃ b off cap, u = .slice (some ⟨b, off, none⟩) xs.length cap ∧ Rep w R (.list e xs) (.slice (some ⟨b, off, none⟩) xs.length xs.length) := by
  cases h with
  | list _ _ a cap val hc hl hcell hrep =>
    obtain ⟨b, off, rfl, _, _⟩ := hcell 0 0 hx he
    exact ⟨b, off, cap, rfl, .list e xs _ _ val (Nat.le_refl _) hl hcell hrep⟩

theorem run_indexAt_slice' {P : Program} {t e : TypeId} {E : TyI} (hu : P.underlying t = some (.slice e)) (hE : TyFacts P e E) (w : World) {b o len cap : Nat} {k : IntKind} {i : Int} (h0 : 0 ≤ i) (h1 : i < len) :
    (Instr.indexAt t (.slice (some ⟨b, o, none⟩) len cap) (.int k i)).run P w = .ok (.pointer (some ⟨b, o + i.toNat * E.size, none⟩)) w := by
  simp [Instr.indexAt, asIntOf, run_underlying hu, h0, h1, hE.run_sizeOf, add_none]

theorem run_indexAt_array' {P : Program} {t e : TypeId} {n : Nat} {E : TyI} (hu : P.underlying t = some (.array n e)) (hE : TyFacts P e E) (w : World) {b o : Nat} {k : IntKind} {i : Int} (h0 : 0 ≤ i) (h1 : i < n) :
    (Instr.indexAt t (.pointer (some ⟨b, o, none⟩)) (.int k i)).run P w = .ok (.pointer (some ⟨b, o + i.toNat * E.size, none⟩)) w := by
  simp [Instr.indexAt, asIntOf, run_underlying hu, Instr.sureAddr, h0, h1, hE.run_sizeOf, add_none]

theorem run_indexX' {P : Program} {t e : TypeId} {T E : TyI} (hT : TyFacts P t T) (hk : T.kind = .slice e) (hE : TyFacts P e E) {c : Ctx} {objs : Objs} {w : World} {x i : CV} {u v : Value} {K : CV → Prop}
    (h : indexX T E.size objs x i K) (hpos : 0 < E.size) (hx : RelCV c objs w x u) (hi : RelCV c objs w i v) :
    ∃ r z, (∀ w', (Instr.indexAt t u v).run P w' = .ok r w') ∧ RelCV c objs w z r ∧ K z := by
  have hu := und_of_kind_slice hT hk
  unfold indexX at h
  rw [hk] at h
  split at h
  · rename_i k n heq
    obtain rfl := Rep.v_inv hi
    split at h
    · rename_i o ver e' off len cap
      split at h
      · rename_i ee xs hob
        replace h := chkP_iff.1 h; obtain ⟨he, h0, h1, h⟩ := h
        have hlive := objRd_live hob
        obtain ⟨hone, hkn, hx⟩ := hx
        obtain ⟨a, cp, rfl, h2, h3, h4⟩ := hx hlive
        obtain ⟨b, base, cs, T', g1, rfl, g3, g4⟩ := h4 (by omega)
        refine ⟨_, .eptr o ver e' (off + n.toNat) 0, fun w' => run_indexAt_slice' hu hE w' h0 h1, ⟨rfl, hkn, fun _ => ⟨b, base, g1, ?_⟩⟩, h⟩
        rw [he, Nat.add_mul, Nat.add_zero, Nat.add_assoc]
      · rename_i ee xs hob
        replace h := chkP_iff.1 h; obtain ⟨he, h0, h1, h⟩ := h
        have hlive := objRd_live hob
        obtain ⟨hone, hkn, hx⟩ := hx
        obtain ⟨a, cp, rfl, h2, h3, h4⟩ := hx hlive
        obtain ⟨b, base, cs, T', g1, rfl, g3, g4⟩ := h4 (by omega)
        refine ⟨_, .eptr o ver e' (off + n.toNat) 0, fun w' => run_indexAt_slice' hu hE w' h0 h1, ⟨rfl, hkn, fun _ => ⟨b, base, g1, ?_⟩⟩, h⟩
        rw [he, Nat.add_mul, Nat.add_zero, Nat.add_assoc]
      · exact h.elim
    · rename_i o ver p e' off len
      replace h := chkP_iff.1 h; obtain ⟨hal, h⟩ := h
      replace h := chkP_iff.1 h; obtain ⟨he, h0, h1, h⟩ := h
      obtain ⟨hone, hkn, hx⟩ := hx
      obtain ⟨a, cp, rfl, h2, h4⟩ := hx (alive_iff hal)
      obtain ⟨b, base, g1, rfl⟩ := h4 (by omega)
      refine ⟨_, .gptr o ver p e' (off + n.toNat) 0, fun w' => run_indexAt_slice' hu hE w' h0 h1, ⟨rfl, hkn, fun _ => ⟨b, base, g1, ?_⟩⟩, h⟩
      rw [he, Nat.add_mul, Nat.add_zero, Nat.add_assoc]
    · rename_i e' xs
      replace h := chkP_iff.1 h; obtain ⟨he, h0, h1, h⟩ := h
      obtain ⟨b, off, cap, rfl, hrep⟩ := Rep.at_elem hx (by omega) (by omega)
      refine ⟨_, .ip e' xs n.toNat 0, fun w' => run_indexAt_slice' hu hE w' h0 h1, ⟨b, off, _, hrep, rfl, by omega, ?_⟩, h⟩
      rw [he, Nat.add_zero]
    · exact h.elim
  · rename_i heq; cases heq
  · exact h.elim

theorem run_indexX {P : Program} {t e : TypeId} {T E : TyI} (hT : TyFacts P t T) (hk : T.kind = .slice e) (hE : TyFacts P e E) {c : Ctx} {objs : Objs} {w : World} {x i : CV} {u v : Value} {K : CV → Prop}
    (h : indexX T E.size objs x i K) (hpos : 0 < E.size) (hx : RelCV c objs w x u) (hi : RelCV c objs w i v) :
    ∃ r z, (∀ w', SameOld w w' → (Instr.indexAt t u v).run P w' = .ok r w') ∧ RelCV c objs w z r ∧ K z := by
  obtain ⟨v, z, h1, h2⟩ := run_indexX' hT hk hE h hpos hx hi
  exact ⟨v, z, fun w' _ => h1 w', h2⟩

theorem run_indexX_array' {P : Program} {t e : TypeId} {n : Nat} {T E : TyI} (hT : TyFacts P t T) (hk : T.kind = .array n e) (hE : TyFacts P e E) {c : Ctx} {objs : Objs} {w : World} {x i : CV} {u v : Value} {K : CV → Prop}
    (h : indexX T E.size objs x i K) (hx : RelCV c objs w x u) (hi : RelCV c objs w i v) :
    ∃ r z, (∀ w', (Instr.indexAt t u v).run P w' = .ok r w') ∧ RelCV c objs w z r ∧ K z := by
  have hu := und_of_kind_array hT hk
  unfold indexX at h
  rw [hk] at h
  split at h
  · rename_i heq; cases heq
  · rename_i n' e' k m heq
    cases heq
    obtain rfl := Rep.v_inv hi
    split at h
    · rename_i o ver off
      replace h := chkP_iff.1 h; obtain ⟨ha, h0, h1, h⟩ := h
      obtain ⟨hone, hkn, hx⟩ := hx
      obtain ⟨b, base, g1, rfl⟩ := hx (alive_iff ha)
      exact ⟨_, .ptr o ver (off + m.toNat * E.size), fun w' => run_indexAt_array' hu hE w' h0 h1, ⟨rfl, hkn, fun _ => ⟨b, base, g1, by rw [Nat.add_assoc]⟩⟩, h⟩
    · exact h.elim
  · exact h.elim

theorem run_indexX_array {P : Program} {t e : TypeId} {n : Nat} {T E : TyI} (hT : TyFacts P t T) (hk : T.kind = .array n e) (hE : TyFacts P e E) {c : Ctx} {objs : Objs} {w : World} {x i : CV} {u v : Value} {K : CV → Prop}
    (h : indexX T E.size objs x i K) (hx : RelCV c objs w x u) (hi : RelCV c objs w i v) :
    ∃ r z, (∀ w', SameOld w w' → (Instr.indexAt t u v).run P w' = .ok r w') ∧ RelCV c objs w z r ∧ K z := by
  obtain ⟨v, z, h1, h2⟩ := run_indexX_array' hT hk hE h hx hi
  exact ⟨v, z, fun w' _ => h1 w', h2⟩

end Go.Proofs.Ytmfdkjjhdjkgpaa

namespace Go.Proofs.Ytmfdkjjhdjkgpaa
open Go Go.RowKit

/-- ys lie one behind the other in the values us. -/
structure RepRow (w : World) (R : Nat → Prop) (e : Nat) (ys : List (List DC)) (us : List Value) : Prop where
  len : us.length = ys.length * e
  lens : ∀ x ∈ ys, x.length = e
  rep : ∀ (i j : Nat) d, (ys[i]?.bind (·[j]?)) = some d → ∃ u, us[i * e + j]? = some u ∧ Rep w R d u

theorem row_lt {e : Nat} {ys : List (List DC)} (h : ∀ x ∈ ys, x.length = e) {i j : Nat} {d : DC} (hd : (ys[i]?.bind (·[j]?)) = some d) : i < ys.length ∧ j < e ∧ i * e + j < ys.length * e := by
  cases hx : ys[i]? with
  | none => simp [hx] at hd
  | some x =>
    rw [hx] at hd
    have h1 := (List.getElem?_eq_some_iff.1 hx).1
    have h2 := h x (List.mem_of_getElem? hx)
    have h3 : j < x.length := (List.getElem?_eq_some_iff.1 hd).1
    have h4 : (i + 1) * e ≤ ys.length * e := Nat.mul_le_mul_right e h1
    rw [Nat.succ_mul] at h4
    exact ⟨h1, by omega, by omega⟩

theorem RepRow.get {w : World} {R : Nat → Prop} {e : Nat} {ys : List (List DC)} {us : List Value} (h : RepRow w R e ys us) (he : 0 < e) {p : Nat} {u : Value} (hp : us[p]? = some u) :
    ∃ d, (ys[p / e]?.bind (·[p % e]?)) = some d ∧ Rep w R d u := by
  have hlt : p < ys.length * e := by rw [← h.len]; exact (List.getElem?_eq_some_iff.1 hp).1
  have h1 : p / e < ys.length := by rw [Nat.div_lt_iff_lt_mul he]; exact hlt
  have h2 : p % e < e := Nat.mod_lt _ he
  have h3 := h.lens _ (List.getElem_mem h1)
  have h4 : (ys[p / e]?.bind (·[p % e]?)) = some (ys[p / e][p % e]'(by omega)) := by
    rw [List.getElem?_eq_getElem h1, Option.bind_some, List.getElem?_eq_getElem]
  obtain ⟨u', k1, k2⟩ := h.rep _ _ _ h4
  rw [show p / e * e + p % e = p by rw [Nat.mul_comm]; exact Nat.div_add_mod p e, hp] at k1
  obtain rfl := Option.some.inj k1
  exact ⟨_, h4, k2⟩

theorem RepRow.one {w : World} {R : Nat → Prop} {e : Nat} {ys : List (List DC)} {us : List Value} (h : RepRow w R e ys us) (he : 0 < e) : ∀ u ∈ us, u.oneCell' = true := by
  intro u hu
  obtain ⟨p, hp, rfl⟩ := List.mem_iff_getElem.1 hu
  obtain ⟨d, _, h2⟩ := h.get he (List.getElem?_eq_getElem hp)
  exact h2.one

theorem RepRow.append {w : World} {R : Nat → Prop} {e : Nat} {ys zs : List (List DC)} {us vs : List Value} (h : RepRow w R e ys us) (g : RepRow w R e zs vs) : RepRow w R e (ys ++ zs) (us ++ vs) := by
  refine ⟨by simp [h.len, g.len, Nat.add_mul], fun x hx => ?_, fun i j d hd => ?_⟩
  · rcases List.mem_append.1 hx with hx | hx
    · exact h.lens x hx
    · exact g.lens x hx
  · by_cases hi : i < ys.length
    · rw [List.getElem?_append_left hi] at hd
      obtain ⟨u, k1, k2⟩ := h.rep i j d hd
      refine ⟨u, ?_, k2⟩
      rw [List.getElem?_append_left (by rw [h.len]; exact (row_lt h.lens hd).2.2), k1]
    · rw [List.getElem?_append_right (by omega)] at hd
      obtain ⟨u, k1, k2⟩ := g.rep (i - ys.length) j d hd
      refine ⟨u, ?_, k2⟩
      have hm : ys.length * e ≤ i * e := Nat.mul_le_mul_right e (by omega)
      rw [List.getElem?_append_right (by rw [h.len]; omega), ← k1, h.len, Nat.sub_mul]
      congr 1; omega

theorem RepRow.slice {w : World} {R : Nat → Prop} {e : Nat} {ys : List (List DC)} {us : List Value} (h : RepRow w R e ys us) (off len : Nat) (hl : off + len ≤ ys.length) :
    RepRow w R e ((ys.drop off).take len) ((us.drop (off * e)).take (len * e)) := by
  have hm : (off + len) * e ≤ ys.length * e := Nat.mul_le_mul_right e hl
  rw [Nat.add_mul] at hm
  refine ⟨by simp [h.len]; rw [Nat.min_eq_left (by omega), Nat.min_eq_left (by omega)], fun x hx => h.lens x (List.mem_of_mem_drop (List.mem_of_mem_take hx)), fun i j d hd => ?_⟩
  rw [List.getElem?_take] at hd
  split at hd
  · rename_i hi
    rw [List.getElem?_drop] at hd
    obtain ⟨u, k1, k2⟩ := h.rep _ j d hd
    refine ⟨u, ?_, k2⟩
    have hj := (row_lt h.lens hd).2.1
    have h4 : (i + 1) * e ≤ len * e := Nat.mul_le_mul_right e hi
    rw [Nat.succ_mul] at h4
    rw [List.getElem?_take, if_pos (by omega), List.getElem?_drop, ← k1, Nat.add_mul]
    congr 1; omega
  · simp at hd

theorem RepRow.replicate {w : World} {R : Nat → Prop} {z : List DC} {zs : List Value} (hz : zs.length = z.length) (hr : ∀ (j : Nat) d, z[j]? = some d → ∃ u, zs[j]? = some u ∧ Rep w R d u) (n : Nat) :
    RepRow w R z.length (List.replicate n z) (List.replicate n zs).flatten := by
  induction n with
  | zero => exact ⟨by simp, by simp, by simp⟩
  | succ n ih =>
    rw [List.replicate_succ, List.replicate_succ, List.flatten_cons]
    have h1 : RepRow w R z.length [z] zs := ⟨by simp [hz], by simp, fun i j d hd => by
      cases i with
      | zero => simp only [List.getElem?_cons_zero, Option.bind_some] at hd; simpa using hr j d hd
      | succ i => simp at hd⟩
    exact h1.append ih

theorem RepRow.set {w : World} {R : Nat → Prop} {e : Nat} {ys : List (List DC)} {us : List Value} (h : RepRow w R e ys us) {i : Nat} {ds : List DC} {vs : List Value} (hi : i < ys.length) (hd : ds.length = e) (hv : vs.length = e)
    (hr : ∀ (j : Nat) d, ds[j]? = some d → ∃ u, vs[j]? = some u ∧ Rep w R d u) :
    RepRow w R e (ys.set i ds) (us.take (i * e) ++ vs ++ us.drop (i * e + e)) := by
  have hm : (i + 1) * e ≤ ys.length * e := Nat.mul_le_mul_right e hi
  rw [Nat.succ_mul] at hm
  have hlt : (us.take (i * e)).length = i * e := by rw [List.length_take, h.len, Nat.min_eq_left (by omega)]
  refine ⟨by simp only [List.length_append, hlt, hv, List.length_drop, h.len, List.length_set]; omega, fun x hx => ?_, fun i' j d hd' => ?_⟩
  · rcases List.mem_or_eq_of_mem_set hx with hx | rfl
    · exact h.lens x hx
    · exact hd
  · rw [List.getElem?_set] at hd'
    rw [List.append_assoc]
    by_cases hii : i = i'
    · subst hii
      rw [if_pos rfl, if_pos hi, Option.bind_some] at hd'
      obtain ⟨u, k1, k2⟩ := hr j d hd'
      have hj : j < e := by rw [← hd]; exact (List.getElem?_eq_some_iff.1 hd').1
      refine ⟨u, ?_, k2⟩
      rw [List.getElem?_append_right (by omega), hlt, List.getElem?_append_left (by omega), ← k1]
      congr 1; omega
    · rw [if_neg hii] at hd'
      obtain ⟨u, k1, k2⟩ := h.rep i' j d hd'
      have hj := row_lt h.lens hd'
      refine ⟨u, ?_, k2⟩
      rcases Nat.lt_or_gt_of_ne hii with hl | hl
      · have h5 : (i + 1) * e ≤ i' * e := Nat.mul_le_mul_right e hl
        rw [Nat.succ_mul] at h5
        rw [List.getElem?_append_right (by omega), hlt, List.getElem?_append_right (by omega), List.getElem?_drop, ← k1]
        congr 1; omega
      · have h5 : (i' + 1) * e ≤ i * e := Nat.mul_le_mul_right e hl
        rw [Nat.succ_mul] at h5
        rw [List.getElem?_append_left (by omega), List.getElem?_take, if_pos (by omega), k1]

theorem Rep.row {w : World} {R : Nat → Prop} {e : Nat} {xs : List (List DC)} {a : Option Addr} {n cap : Nat} (h : Rep w R (.list e xs) (.slice a n cap)) :
    n = xs.length ∧ ∃ us, RepRow w R e xs us ∧ ∀ (p : Nat) u, us[p]? = some u → ∃ b off, a = some ⟨b, off, none⟩ ∧ w.cell? ⟨b, off + p, none⟩ = some u := by
  cases h with
  | list _ _ _ _ val hc hl hcell hrep =>
    refine ⟨rfl, (List.range (xs.length * e)).map fun p => val (p / e) (p % e), ⟨by simp, hl, fun i j d hd => ?_⟩, fun p u hp => ?_⟩
    · obtain ⟨h1, h2, h3⟩ := row_lt hl hd
      refine ⟨val i j, ?_, hrep i j d hd⟩
      have h4 : (i * e + j) / e = i := by rw [Nat.mul_comm, Nat.mul_add_div (by omega), Nat.div_eq_of_lt h2, Nat.add_zero]
      have h5 : (i * e + j) % e = j := by rw [Nat.mul_comm, Nat.mul_add_mod, Nat.mod_eq_of_lt h2]
      simp [h3, h4, h5]
    · simp only [List.getElem?_map, Option.map_eq_some_iff] at hp
      obtain ⟨q, hq, rfl⟩ := hp
      have hlt : p < xs.length * e := by have := (List.getElem?_eq_some_iff.1 hq).1; simpa using this
      obtain rfl : p = q := by simpa [hlt] using hq
      have he : 0 < e := by rcases Nat.eq_zero_or_pos e with h0 | h0; · subst h0; simp at hlt
                            · exact h0
      have h1 : p / e < xs.length := by rw [Nat.div_lt_iff_lt_mul he]; exact hlt
      obtain ⟨b, off, k1, _, k2⟩ := hcell (p / e) (p % e) h1 (Nat.mod_lt _ he)
      refine ⟨b, off, k1, ?_⟩
      rw [show p / e * e + p % e = p by rw [Nat.mul_comm]; exact Nat.div_add_mod p e] at k2
      exact k2

/-- The content of a slice: how it lies in memory. -/
theorem run_contentX {P : Program} {c : Ctx} {objs : Objs} {w : World} {e : Nat} {x : CV} {u : Value} {ys : List (List DC)} (hr : RelObjs c objs w) (he : 0 < e)
    (h : contentX objs e x = some ys) (hok : contentOK objs x) (hx : RelCV c objs w x u) :
    ∃ a cap us, u = .slice a ys.length cap ∧ ys.length ≤ cap ∧ RepRow w c.R e ys us ∧ (∀ w' : World, w'.heap = w.heap → (Builtin.firstCells e ys.length u).run P w' = .ok us.toArray w') ∧
      (∀ (p : Nat) v, us[p]? = some v → ∃ b off, a = some ⟨b, off, none⟩ ∧ w.cell? ⟨b, off + p, none⟩ = some v) := by
  have nil_case : ∀ a cap, ∃ us, RepRow w c.R e [] us ∧ (∀ w' : World, w'.heap = w.heap → (Builtin.firstCells e 0 (.slice a 0 cap)).run P w' = .ok us.toArray w') ∧ (∀ (p : Nat) v, us[p]? = some v → ∃ b off, a = some ⟨b, off, none⟩ ∧ w.cell? ⟨b, off + p, none⟩ = some v) := by
    intro a cap
    refine ⟨[], ⟨by simp, by simp, by simp⟩, fun w' _ => ?_, by simp⟩
    cases a with
    | none => rfl
    | some a => simp [Builtin.firstCells, loadCells, loadCellsFrom]
  have gen : ∀ (a : Option Addr) (cap : Nat) (us : List Value), RepRow w c.R e ys us → (∀ (p : Nat) v, us[p]? = some v → ∃ b off, a = some ⟨b, off, none⟩ ∧ w.cell? ⟨b, off + p, none⟩ = some v) →
      ∀ w' : World, w'.heap = w.heap → (Builtin.firstCells e ys.length (.slice a ys.length cap)).run P w' = .ok us.toArray w' := by
    intro a cap us hrow hcl w' hw'
    have hcell' : ∀ ad, w'.cell? ad = w.cell? ad := fun ad => by unfold World.cell?; rw [hw']
    cases a with
    | none =>
      have : us = [] := by
        cases us with
        | nil => rfl
        | cons v r => obtain ⟨b, off, k, _⟩ := hcl 0 v rfl; cases k
      subst this
      rfl
    | some a =>
      by_cases h0 : us = []
      · subst h0
        have : ys.length * e = 0 := by have := hrow.len; simpa using this.symm
        simp [Builtin.firstCells, this, loadCells, loadCellsFrom]
      · obtain ⟨v, r, rfl⟩ := List.exists_cons_of_ne_nil h0
        obtain ⟨b, off, k, _⟩ := hcl 0 v rfl
        obtain rfl := Option.some.inj k
        have := run_loadCells_list (P := P) w' ⟨b, off, none⟩ (v :: r) (fun j z hz => by
          obtain ⟨b', off', k', hc'⟩ := hcl j z hz
          simp only [Option.some.injEq, Addr.mk.injEq, and_true] at k'
          obtain ⟨rfl, rfl⟩ := k'
          rw [add_none, hcell']; exact hc')
        rw [hrow.len] at this
        simp [Builtin.firstCells, this]
  unfold contentX at h
  split at h
  · obtain rfl := Option.some.inj h
    obtain rfl := hx
    obtain ⟨us, h1, h2, h3⟩ := nil_case none 0
    exact ⟨none, 0, us, rfl, Nat.le_refl _, h1, h2, h3⟩
  · obtain rfl := Option.some.inj h
    obtain ⟨a, rfl⟩ := hx
    obtain ⟨us, h1, h2, h3⟩ := nil_case a 0
    exact ⟨a, 0, us, rfl, Nat.le_refl _, h1, h2, h3⟩
  · rename_i e' xs
    split at h
    · rename_i he'
      subst he'
      obtain rfl := Option.some.inj h
      obtain ⟨a, cap, rfl, hcap⟩ := Rep.slice_form hx
      obtain ⟨_, us, h1, h2⟩ := Rep.row hx
      exact ⟨a, cap, us, rfl, hcap, h1, gen a cap us h1 h2, h2⟩
    · cases h
  · rename_i o ver e' off len cap
    split at h
    · rename_i e'' xs hob
      split at h
      · rename_i he'
        obtain ⟨he1, he2⟩ := he'
        rw [he1] at hx
        rw [he2] at hob
        clear he1 he2
        obtain rfl := Option.some.inj h
        have hob' := (objRd_ob hr hob).1
        obtain ⟨hone, hkn, hx⟩ := hx
        obtain ⟨a, cp, rfl, h2, h3, h4⟩ := hx (objRd_live hob)
        have hol : off + len ≤ xs.length := by simpa [contentOK, hob] using hok
        have hlen : ((xs.drop off).take len).length = len := by simp; omega
        by_cases h0 : len = 0
        · subst h0
          obtain ⟨us, k1, k2, k3⟩ := nil_case a cp
          simp only [List.take_zero, List.length_nil]
          exact ⟨a, cp, us, rfl, Nat.zero_le _, k1, k2, k3⟩
        · obtain ⟨b, base, cs, T', g1, rfl, g3, g4⟩ := h4 (by omega)
          rcases hob' with ⟨q1, _⟩ | ⟨b', base', cs', T'', q1, q2, q3, q4, q5⟩
          · rw [q1] at g1; cases g1
          · rw [g1] at q1
            obtain ⟨rfl, rfl⟩ : b = b' ∧ base = base' := by simpa using q1
            rw [g3] at q2
            simp only [Option.some.injEq, Obj.cells.injEq, and_true] at q2
            obtain ⟨rfl, rfl⟩ := q2
            have hrow : RepRow w c.R e xs ((cs.toList.drop base).take (xs.length * e)) := by
              refine ⟨by simp; omega, q4, fun i j d hd => ?_⟩
              obtain ⟨u, k1, k2⟩ := q5 i j d hd
              refine ⟨u, ?_, k2⟩
              rw [List.getElem?_take, if_pos (row_lt q4 hd).2.2, List.getElem?_drop, ← k1]
              simp
            have hrow2 := hrow.slice off len hol
            have hcl : ∀ (p : Nat) v, ((((cs.toList.drop base).take (xs.length * e)).drop (off * e)).take (len * e))[p]? = some v → ∃ b' off', (some ⟨b, base + off * e, none⟩ : Option Addr) = some ⟨b', off', none⟩ ∧ w.cell? ⟨b', off' + p, none⟩ = some v := by
              intro p v hp
              refine ⟨b, base + off * e, rfl, ?_⟩
              rw [List.getElem?_take] at hp
              split at hp
              · rw [List.getElem?_drop, List.getElem?_take] at hp
                split at hp
                · rw [List.getElem?_drop] at hp
                  rw [cell_of g3, ← hp, Array.getElem?_toList]
                  congr 1; omega
                · cases hp
              · cases hp
            have := gen (some ⟨b, base + off * e, none⟩) cp _ hrow2 hcl
            rw [hlen] at this ⊢
            exact ⟨_, cp, _, rfl, h2, hrow2, this, hcl⟩
      · cases h
    · cases h
  · cases h

end Go.Proofs.Ytmfdkjjhdjkgpaa

namespace Go.Proofs.Ytmfdkjjhdjkgpaa
open Go Go.RowKit

/-- An empty row that lies nowhere yet. -/
theorem ghost_ext {c : Ctx} {objs : Objs} {w : World} (hr : RelObjs c objs w) (ver e : Nat) :
    Ext objs.length c objs w (c.at objs.length none) (objs ++ [(ver, .arr e [])]) w ∧ RelObjs (c.at objs.length none) (objs ++ [(ver, .arr e [])]) w := by
  have hE : Ext objs.length c objs w (c.at objs.length none) (objs ++ [(ver, .arr e [])]) w := by
    refine ⟨Nat.le_refl _, rfl, rfl, rfl, fun _ _ _ => rfl, fun _ cs _ h => ⟨cs, h, rfl⟩, fun b hb => ?_, fun _ h => h, fun _ h => .inl h, fun o cur bd ho h1 => ?_⟩
    · rcases own_append hb with h | ⟨base, h⟩
      · exact .inl h
      · cases h
    · exact ⟨cur, bd, by rw [List.getElem?_append_left ho]; exact h1, Nat.le_refl _, fun _ h => ⟨h, (at_other (by omega)).1, fun p x hx => by rw [(at_other (by omega)).2]; exact hx⟩⟩
  exact ⟨hE, add_objs hr hE (fun _ _ => rfl) (fun _ _ h => by cases h) (.inl ⟨by simp [Ctx.at], rfl⟩)⟩

/-- An object gets a new version, at a place of its own. -/
theorem repl_ok {c : Ctx} {objs : Objs} {w w' : World} {o ver : Nat} {bd bd' : OB} {p : Option (Nat × Nat)} (hr : RelObjs c objs w)
    (ho : objs[o]? = some (ver, bd)) (hd : bd.mine = true) (hsize : w.heap.size ≤ w'.heap.size) (ht : w'.tape = w.tape) (hos : w'.os = w.os) (hout : w'.output = w.output)
    (hkeep : ∀ k : Nat, k < w.heap.size → (∀ base, c.φ o ≠ some (k, base)) → w'.heap[k]? = w.heap[k]?)
    (hshape : ∀ (b : Nat) cs T, w.heap[b]? = some (Obj.cells cs T (0, 0)) → ∃ cs', w'.heap[b]? = some (Obj.cells cs' T (0, 0)) ∧ cs'.size = cs.size)
    (hp : ∀ b base, p = some (b, base) → (∃ base', c.φ o = some (b, base')) ∨ (w.heap.size ≤ b ∧ b < w'.heap.size))
    (hn : Ext objs.length c objs w (c.at o p) (objs.set o (ver + 1, bd')) w' → RelOB (c.at o p) (objs.set o (ver + 1, bd')) w' o bd') :
    Ext objs.length c objs w (c.at o p) (objs.set o (ver + 1, bd')) w' ∧ RelObjs (c.at o p) (objs.set o (ver + 1, bd')) w' := by
  have hown : ∀ b, Own (c.at o p) (objs.set o (ver + 1, bd')) b → (∃ o' v x, o' ≠ o ∧ objs[o']? = some (v, x) ∧ x.mine = true ∧ c.has o' b) ∨ (∃ base, p = some (b, base)) := by
    rintro b ⟨o', v, x, h1, h2, h3⟩
    rcases set_cases ho h1 with ⟨rfl, h4⟩ | ⟨hne, h4⟩
    · exact .inr (has_at_self.1 h3)
    · exact .inl ⟨o', v, x, hne, h4, h2, (has_at_other hne).1 h3⟩
  have hown2 : ∀ b, Own (c.at o p) (objs.set o (ver + 1, bd')) b → Own c objs b ∨ (w.heap.size ≤ b ∧ b < w'.heap.size) := by
    intro b hb
    rcases hown b hb with ⟨o', v, x, _, h4, h2, h3⟩ | ⟨base, h⟩
    · exact .inl (.mk' h4 h2 h3)
    · rcases hp b base h with ⟨base', h5⟩ | h5
      · exact .inl (.of ho hd h5)
      · exact .inr h5
  have hE : Ext objs.length c objs w (c.at o p) (objs.set o (ver + 1, bd')) w' := by
    refine ⟨hsize, ht, hos, hout, ?_, hshape, fun b hb => (hown2 b hb).imp id (·.1), fun _ h => h, fun _ h => .inl h, ?_⟩
    · intro b hb hno
      exact hkeep b hb (fun base h => hno (.of ho hd h))
    · intro o' cur bd2 _ h1
      by_cases e : o' = o
      · subst e
        rw [ho] at h1
        obtain ⟨rfl, rfl⟩ : ver = cur ∧ bd = bd2 := by simpa using h1
        exact ⟨_, _, getElem?_set_self' ho, by omega, fun h _ => by omega⟩
      · exact ⟨cur, bd2, by rw [List.getElem?_set_ne (Ne.symm e)]; exact h1, Nat.le_refl _, fun _ h => ⟨h, (at_other e).1, fun q x hx => by rw [(at_other e).2]; exact hx⟩⟩
  refine ⟨hE, ?_, ?_, ?_, ?_, ?_⟩
  · intro o' v x h1
    rcases set_cases ho h1 with ⟨rfl, h4⟩ | ⟨hne, h4⟩
    · obtain ⟨rfl, rfl⟩ : v = ver + 1 ∧ x = bd' := by simpa using h4
      exact hn hE
    · by_cases hdead : x = .dead
      · subst hdead; exact trivial
      refine RelOB.keep hE (Nat.le_refl _) hr (at_other hne).1 (at_other hne).2 (fun b hpp => hkeep b (hr.lsize o' v x b h4 hdead hpp) ?_) (hr.ob o' v x h4)
      intro base' hpo
      exact hne (hr.inj o o' ver v bd x b ho hd h4 hdead (.inl ⟨_, hpo⟩) hpp).symm
  · intro o1 o2 v1 v2 b1 b2 b h1 h2 h3 h4 h5 h6
    rcases set_cases ho h1 with ⟨rfl, k1⟩ | ⟨hne1, k1⟩ <;> rcases set_cases ho h3 with ⟨rfl, k2⟩ | ⟨hne2, k2⟩
    · rfl
    · obtain ⟨base1, h5⟩ := has_at_self.1 h5
      rw [has_at_other hne2] at h6
      rcases hp b base1 h5 with ⟨base', h7⟩ | h7
      · exact hr.inj _ _ _ _ _ _ b ho hd k2 h4 (.inl ⟨_, h7⟩) h6
      · have := hr.lsize _ _ _ b k2 h4 h6; omega
    · obtain ⟨base2, h6⟩ := has_at_self.1 h6
      rw [has_at_other hne1] at h5
      rcases hp b base2 h6 with ⟨base', h7⟩ | h7
      · exact hr.inj _ _ _ _ _ _ b k1 h2 ho (OB.mine_live hd) h5 (.inl ⟨_, h7⟩)
      · have := hr.lsize _ _ _ b k1 (OB.mine_live h2) h5; omega
    · rw [has_at_other hne1] at h5
      rw [has_at_other hne2] at h6
      exact hr.inj _ _ _ _ _ _ b k1 h2 k2 h4 h5 h6
  · intro b hb
    have := hr.rsize b hb
    omega
  · intro o' v x b h1 h2 h3
    rcases set_cases ho h1 with ⟨rfl, h4⟩ | ⟨hne, h4⟩
    · obtain ⟨base, h3⟩ := has_at_self.1 h3
      rcases hp b base h3 with ⟨base', h7⟩ | h7
      · have := hr.lsize _ _ _ b ho (OB.mine_live hd) (.inl ⟨_, h7⟩); omega
      · exact h7.2
    · have := hr.lsize _ _ _ b h4 h2 ((has_at_other hne).1 h3); omega
  · intro b hb
    rcases hown2 b hb with h | h
    · exact hr.oR b h
    · intro hR
      have := hr.rsize b hR; omega

theorem nextslicecap_le {need old : Nat} (h : old < need) : Builtin.nextslicecap need old ≤ 2 * need := by
  unfold Builtin.nextslicecap
  split
  · omega
  · split
    · omega
    · have grow : ∀ (r k : Nat), 256 ≤ k → k < need → Builtin.growBy need r k ≤ 2 * need := by
        intro r
        induction r with
        | zero => intro k hk h1; unfold Builtin.growBy; omega
        | succ r ih =>
          intro k hk h1
          unfold Builtin.growBy
          split
          · omega
          · by_cases h1 : k + (k + 768) / 4 < need
            · exact ih _ (by omega) h1
            · cases r with
              | zero => unfold Builtin.growBy; omega
              | succ r => unfold Builtin.growBy; rw [if_pos (by omega)]; omega
      exact grow 4 old (by omega) h

theorem run_append {P : Program} {t t' e : TypeId} {E : TyI} (hu : P.underlying t = some (.slice e)) (hu' : (∃ e', P.underlying t' = some (.slice e'))) (hE : TyFacts P e E) (ty : TypeId) (w : World)
    {a b : Option Addr} {sl sc xl xc : Nat} {us vs : List Value}
    (hs : ∀ w' : World, w'.heap = w.heap → (Builtin.firstCells E.size sl (.slice a sl sc)).run P w' = .ok us.toArray w') (hx : ∀ w' : World, w'.heap = w.heap → (Builtin.firstCells E.size xl (.slice b xl xc)).run P w' = .ok vs.toArray w')
    (hb : (sl + xl) * E.bytes ≤ 2 ^ 40) (hb2 : sl + xl ≤ 2 ^ 40) :
    (sl + xl ≤ sc ∧ (Builtin.append_ #[t, t'] ty #[.slice a sl sc, .slice b xl xc]).run P w =
        match a with
        | none => .ok (.slice none (sl + xl) sc) w
        | some ad => ((storeCells (ad.add (sl * E.size)) vs).run P w).andThen fun _ w => .ok (.slice (some ad) (sl + xl) sc) w) ∨
    (sc < sl + xl ∧ ∃ (cap : Nat) (rest : List Value), sl + xl ≤ cap ∧ rest.length = (cap - (sl + xl)) * E.size ∧
      (Builtin.append_ #[t, t'] ty #[.slice a sl sc, .slice b xl xc]).run P w = .ok (.slice (some ⟨w.heap.size, 0, none⟩) (sl + xl) cap) (w.drew.alloc (.cells (us ++ vs ++ rest).toArray e))) := by
  obtain ⟨e', hu'⟩ := hu'
  have hx1 := hx w rfl
  by_cases hc : sl + xl ≤ sc
  · refine .inl ⟨hc, ?_⟩
    cases a with
    | none => simp [Builtin.append_, run_underlying hu, run_underlying hu', hE.run_sizeOf, Builtin.lenOf, hc, hx1]
    | some ad => simp [Builtin.append_, run_underlying hu, run_underlying hu', hE.run_sizeOf, Builtin.lenOf, hc, hx1]
  · refine .inr ⟨by omega, ?_⟩
    have hbytes : hE.i.bytes = E.bytes := hE.bytes.symm
    have hlt : sc < sl + xl := by omega
    have hnc : ¬ (2 ^ 48 < Builtin.nextslicecap (sl + xl) sc * E.bytes) := by
      have h1 : Builtin.nextslicecap (sl + xl) sc * E.bytes ≤ (2 * (sl + xl)) * E.bytes := Nat.mul_le_mul_right _ (nextslicecap_le hlt)
      have h2 : (2 * (sl + xl)) * E.bytes = 2 * ((sl + xl) * E.bytes) := by rw [Nat.mul_assoc]
      omega
    have hmx : ¬ ((9223372036854775807 : Int) < (sl : Int) + (xl : Int)) := by omega
    let cap : Nat := (sl + xl) + (w.tape w.drawn (.appendCap (sl + xl) sc e)) % (2 ^ 63 - (sl + xl))
    have hz : hE.z.cells.size = E.size := by rw [hE.zsize, hE.size]
    have hask : ∀ n w', (askRoom n).run P w' = .ok () w' := by
      intro n w'
      unfold askRoom
      split <;> simp [mark, Sem.run]
    refine ⟨cap, (Builtin.zeroCells hE.z.cells (cap - (sl + xl))).toList, by simp [cap], by simp [Builtin.zeroCells, hz], ?_⟩
    simp [Builtin.append_, run_underlying hu, run_underlying hu', hE.run_sizeOf, hE.run_typeInfo, hE.run_zero, Builtin.lenOf, hc, hnc, hbytes, hmx, hask, hs w.drew rfl, hx w.drew rfl, newRow, Question.forced, Question.cut, cap]
    congr 2
    apply Array.ext'
    simp

theorem heap_drew (w : World) : w.drew.heap = w.heap := rfl

theorem relOB_row {c : Ctx} {objs : Objs} {w : World} {o e b base : Nat} {ys : List (List DC)} {us : List Value} {cs : Array Value} {T : TypeId} (hφ : c.φ o = some (b, base)) (hb : w.heap[b]? = some (.cells cs T (0, 0)))
    (hrow : RepRow w c.R e ys us) (hsz : base + ys.length * e ≤ cs.size) (hcl : ∀ (p : Nat) u, us[p]? = some u → cs[base + p]? = some u) : RelOB c objs w o (.arr e ys) := by
  refine .inr ⟨b, base, cs, T, hφ, hb, hsz, hrow.lens, fun i j d hd => ?_⟩
  obtain ⟨u, h1, h2⟩ := hrow.rep i j d hd
  exact ⟨u, hcl _ u h1, h2⟩

theorem RepRow.ext {n : Nat} {c c' : Ctx} {objs objs' : Objs} {w w' : World} {e : Nat} {ys : List (List DC)} {us : List Value} (h : Ext n c objs w c' objs' w') (hr : RelObjs c objs w) (hrow : RepRow w c.R e ys us) : RepRow w' c'.R e ys us :=
  ⟨hrow.len, hrow.lens, fun i j d hd => by obtain ⟨u, h1, h2⟩ := hrow.rep i j d hd; exact ⟨u, h1, h.rep hr h2⟩⟩

/-- Append to a row of the call's own. -/
theorem run_append_sl {P : Program} {t t' te : TypeId} {E : TyI} (hu : P.underlying t = some (.slice te)) (hu' : (∃ e', P.underlying t' = some (.slice e'))) (hE : TyFacts P te E) (hpos : 0 < E.size) (ty : TypeId)
    {c : Ctx} {objs : Objs} {w : World} {o ver off len : Nat} {cap : Option Nat} {xs ys : List (List DC)} {x : CV} {u v : Value} (hr : RelObjs c objs w)
    (hob : objs[o]? = some (ver, .arr E.size xs)) (hol : off + len ≤ xs.length) (hy : contentX objs E.size x = some ys) (hyo : contentOK objs x) (hb : (len + ys.length) * E.bytes ≤ 2 ^ 40) (hb2 : len + ys.length ≤ 2 ^ 40)
    (hs : RelCV c objs w (.sl o ver E.size off len cap) u) (hx : RelCV c objs w x v) :
    ∃ r c' w', (Builtin.append_ #[t, t'] ty #[u, v]).run P w = .ok r w' ∧ Ext objs.length c objs w c' (objs.set o (ver + 1, .arr E.size ((xs.drop off).take len ++ ys))) w' ∧
      RelObjs c' (objs.set o (ver + 1, .arr E.size ((xs.drop off).take len ++ ys))) w' ∧ RelCV c' (objs.set o (ver + 1, .arr E.size ((xs.drop off).take len ++ ys))) w' (.sl o (ver + 1) E.size 0 (len + ys.length) none) r := by
  have hobj : objAt objs o ver = some (.arr E.size xs) := by simp [objAt, hob]
  have hlen : ((xs.drop off).take len).length = len := by simp; omega
  obtain ⟨b, xc, vs, rfl, hxc, hvrow, hvrun, hvcl⟩ := run_contentX (P := P) hr hpos hy hyo hx
  obtain ⟨a, sc, us, rfl, hsc, hurow, hurun, hucl⟩ := run_contentX (P := P) (x := .sl o ver E.size off len cap) (ys := (xs.drop off).take len) hr hpos (by simp [contentX, objRd_of hobj]) (by simp [contentOK, objRd_of hobj, hol]) hs
  rw [hlen] at hs hsc hurun ⊢
  have hlive : Live objs o ver := ⟨_, hob, by simp⟩
  obtain ⟨a', cp, heq, h2, h3, h4⟩ := hs.2.2 hlive
  simp only [Value.slice.injEq, true_and] at heq
  obtain ⟨rfl, rfl⟩ := heq
  have hrow := hurow.append hvrow
  have hrl := hrow.len
  rw [List.length_append, List.length_append, hlen] at hrl
  have hknown : Known (objs.set o (ver + 1, .arr E.size ((xs.drop off).take len ++ ys))) o (ver + 1) := ⟨_, _, getElem?_set_self' hob, Nat.le_refl _⟩
  rcases run_append (P := P) hu hu' hE ty w hurun hvrun hb hb2 with ⟨hfit, hrun⟩ | ⟨hno, cap', rest, hcap, hrest, hrun⟩
  · by_cases h0 : 0 < sc
    · -- there is room: the cells are written in place
      obtain ⟨bk, base, cs, T', g1, rfl, g3, g4⟩ := h4 h0
      rcases hr.ob o ver _ hob with ⟨q1, _⟩ | ⟨bk', base', cs', T'', q1, q2, q3, q4, q5⟩
      · rw [q1] at g1; cases g1
      rw [g1] at q1
      obtain ⟨rfl, rfl⟩ : bk = bk' ∧ base = base' := by simpa using q1
      rw [g3] at q2
      simp only [Option.some.injEq, Obj.cells.injEq, and_true] at q2
      obtain ⟨rfl, rfl⟩ := q2
      rw [Nat.add_mul] at g4
      have hm : (len + ys.length) * E.size ≤ sc * E.size := Nat.mul_le_mul_right _ hfit
      rw [Nat.add_mul] at hm
      have hvl := hvrow.len
      have hul := hurow.len
      rw [hlen] at hul
      have hfit2 : (base + off * E.size + len * E.size) + vs.length ≤ cs.size := by rw [hvl]; omega
      simp only [add_none, run_storeCells_put g3 vs hfit2 (hvrow.one hpos), Result.andThen_ok] at hrun
      have hrep := repl_ok (w' := w.setRow bk (putRow' cs (base + off * E.size + len * E.size) vs)) (bd' := .arr E.size ((xs.drop off).take len ++ ys)) (p := some (bk, base + off * E.size)) hr hob rfl
        (by rw [setRow_size]; exact Nat.le_refl _) rfl rfl rfl (fun k hk hne => setRow_other w bk k _ (fun e => hne base (e ▸ g1)))
        (fun k ks U hk => by
          by_cases e : k = bk
          · subst e
            rw [g3] at hk
            simp only [Option.some.injEq, Obj.cells.injEq, and_true] at hk
            obtain ⟨rfl, rfl⟩ := hk
            exact ⟨_, setRow_heap w k cs _ T' (0, 0) g3, size_putRow' hfit2⟩
          · exact ⟨ks, (setRow_other w bk k _ e).trans hk, rfl⟩)
        (fun k base' h => by simp only [Option.some.injEq, Prod.mk.injEq] at h; obtain ⟨rfl, rfl⟩ := h; exact .inl ⟨base, g1⟩)
        (fun hE' => relOB_row (b := bk) (base := base + off * E.size) (by simp [Ctx.at]) (setRow_heap w bk cs _ T' (0, 0) g3) (hrow.ext hE' hr) (by rw [size_putRow' hfit2, List.length_append, hlen, Nat.add_mul]; omega)
          (fun p z hz => by
            rw [get_putRow' hfit2]
            by_cases hp : p < us.length
            · rw [List.getElem?_append_left hp] at hz
              rw [if_neg (by omega)]
              obtain ⟨b', off', k1, k2⟩ := hucl p z hz
              simp only [Option.some.injEq, Addr.mk.injEq, and_true] at k1
              obtain ⟨rfl, rfl⟩ := k1
              rw [cell_of g3] at k2
              exact k2
            · rw [List.getElem?_append_right (by omega)] at hz
              have := (List.getElem?_eq_some_iff.1 hz).1
              rw [if_pos (by omega), ← hz]
              congr 1; omega))
      refine ⟨_, _, _, hrun, hrep.1, hrep.2, rfl, hknown, fun _ => ⟨_, sc, rfl, by omega, by simp [capOk], fun _ => ⟨bk, base + off * E.size, _, T', by simp [Ctx.at], by simp, setRow_heap w bk cs _ T' (0, 0) g3, ?_⟩⟩⟩
      rw [size_putRow' hfit2, Nat.add_mul]; omega
    · -- no room, and nothing to be put
      have hz : len = 0 ∧ ys.length = 0 ∧ sc = 0 := by omega
      obtain ⟨hz1, hz2, hz3⟩ := hz
      have hys : ys = [] := List.eq_nil_of_length_eq_zero hz2
      subst hz3 hys
      have hvs : vs = [] := by have := hvrow.len; exact List.eq_nil_of_length_eq_zero (by simpa using this)
      subst hvs
      have hun : (xs.drop off).take len ++ [] = [] := by rw [hz1]; simp
      have hrun' : (Builtin.append_ #[t, t'] ty #[.slice a len 0, .slice b ([] : List (List DC)).length xc]).run P w = .ok (.slice a (len + 0) 0) w := by
        rw [hrun]
        cases a <;> simp [storeCells]
      have hrep := repl_ok (w' := w) (bd' := .arr E.size ((xs.drop off).take len ++ [])) (p := none) hr hob rfl (Nat.le_refl _) rfl rfl rfl (fun _ _ _ => rfl) (fun _ cs _ h => ⟨cs, h, rfl⟩) (fun _ _ h => by cases h)
        (fun _ => .inl ⟨by simp [Ctx.at], hun⟩)
      exact ⟨_, _, _, hrun', hrep.1, hrep.2, rfl, hknown, fun _ => ⟨a, 0, rfl, by simp; omega, by simp [capOk], fun h => by omega⟩⟩
  · -- a new row
    have hsz0 : (us ++ vs ++ rest).toArray.size = cap' * E.size := by
      simp only [List.size_toArray, List.length_append, hrest] at hrl ⊢
      rw [hrl, ← Nat.add_mul]
      congr 1; omega
    have hrep := repl_ok (w' := w.drew.alloc (.cells (us ++ vs ++ rest).toArray te)) (bd' := .arr E.size ((xs.drop off).take len ++ ys)) (p := some (w.heap.size, 0)) hr hob rfl
      (by simp [heap_drew]) rfl rfl rfl (fun k hk _ => (heap_alloc_lt w.drew _ hk).trans (by rw [heap_drew]))
      (fun k ks U hk => ⟨ks, (heap_alloc_lt w.drew _ (Array.getElem?_eq_some_iff.1 hk).1).trans hk, rfl⟩)
      (fun k base' h => by simp only [Option.some.injEq, Prod.mk.injEq] at h; exact .inr ⟨by omega, by simp [heap_drew]; omega⟩)
      (fun hE' => relOB_row (b := w.heap.size) (base := 0) (by simp [Ctx.at]) (heap_alloc_new w.drew _) (hrow.ext hE' hr) (by rw [hsz0, List.length_append, hlen, Nat.zero_add]; exact Nat.mul_le_mul_right _ hcap)
        (fun p z hz => by
          have := (List.getElem?_eq_some_iff.1 hz).1
          rw [Nat.zero_add, List.getElem?_toArray, List.getElem?_append_left this, hz]))
    exact ⟨_, _, _, hrun, hrep.1, hrep.2, rfl, hknown, fun _ => ⟨_, cap', rfl, hcap, by simp [capOk], fun _ => ⟨w.heap.size, 0, _, te, by simp [Ctx.at], by simp, heap_alloc_new w.drew _, by rw [hsz0]; simp⟩⟩⟩

theorem spliceL_len {xs ys : List (List DC)} {p : Nat} (h : p + ys.length ≤ xs.length) : (spliceL xs ys p).length = xs.length := by
  unfold spliceL; simp; omega

/-- Rows written over others of an object of one's own. -/
theorem splice_ok {c : Ctx} {objs : Objs} {w : World} {o ver e p b base : Nat} {xs ys : List (List DC)} {us : List Value} {cs : Array Value} {T : TypeId} (hr : RelObjs c objs w) (hob : objs[o]? = some (ver, .arr e xs))
    (hφ : c.φ o = some (b, base)) (hb : w.heap[b]? = some (.cells cs T (0, 0))) (hrow : RepRow w c.R e ys us) (hfit : p + ys.length ≤ xs.length) :
    Ext objs.length c objs w c (objs.set o (ver, .arr e (spliceL xs ys p))) (w.setRow b (putRow' cs (base + p * e) us)) ∧ RelObjs c (objs.set o (ver, .arr e (spliceL xs ys p))) (w.setRow b (putRow' cs (base + p * e) us)) ∧
      (base + p * e) + us.length ≤ cs.size := by
  rcases hr.ob o ver _ hob with ⟨q1, _⟩ | ⟨b', base', cs', T', q1, q2, q3, q4, q5⟩
  · rw [q1] at hφ; cases hφ
  rw [hφ] at q1
  obtain ⟨rfl, rfl⟩ : b = b' ∧ base = base' := by simpa using q1
  rw [hb] at q2
  simp only [Option.some.injEq, Obj.cells.injEq, and_true] at q2
  obtain ⟨rfl, rfl⟩ := q2
  have hm : (p + ys.length) * e ≤ xs.length * e := Nat.mul_le_mul_right _ hfit
  rw [Nat.add_mul] at hm
  have hul := hrow.len
  have hsz : (base + p * e) + us.length ≤ cs.size := by omega
  have hxl : (xs.take p).length = p := by simp; omega
  have hW := write_cells (bd' := .arr e (spliceL xs ys p)) hr hob rfl rfl (c.has_of hφ) hb (size_putRow' hsz) fun hE => by
    refine .inr ⟨b, base, _, T, hφ, setRow_heap w b cs _ T (0, 0) hb, by rw [size_putRow' hsz, spliceL_len hfit]; exact q3, fun x hx => ?_, fun i j d hd => ?_⟩
    · unfold spliceL at hx
      rcases List.mem_append.1 hx with hx | hx
      · rcases List.mem_append.1 hx with hx | hx
        · exact q4 x (List.mem_of_mem_take hx)
        · exact hrow.lens x hx
      · exact q4 x (List.mem_of_mem_drop hx)
    · have hold : ∀ {i j : Nat} {d : DC}, (xs[i]?.bind (·[j]?)) = some d → j < e := by
        intro i j d hd
        exact (row_lt q4 hd).2.1
      rw [get_putRow' hsz]
      unfold spliceL at hd
      by_cases h1 : i < p
      · rw [List.append_assoc, List.getElem?_append_left (by omega), List.getElem?_take, if_pos h1] at hd
        have hj := hold hd
        have : (i + 1) * e ≤ p * e := Nat.mul_le_mul_right _ h1
        rw [Nat.succ_mul] at this
        obtain ⟨u, m1, m2⟩ := q5 i j d hd
        exact ⟨u, by rw [if_neg (by omega)]; exact m1, hE.rep hr m2⟩
      · by_cases h2 : i < p + ys.length
        · rw [List.append_assoc, List.getElem?_append_right (by omega), hxl, List.getElem?_append_left (by omega)] at hd
          have hj := (row_lt hrow.lens hd).2
          obtain ⟨u, m1, m2⟩ := hrow.rep (i - p) j d hd
          have e1 : (i - p) * e + p * e = i * e := by rw [← Nat.add_mul]; congr 1; omega
          refine ⟨u, ?_, hE.rep hr m2⟩
          rw [if_pos (by omega), ← m1]
          congr 1; omega
        · rw [List.getElem?_append_right (by simp; omega)] at hd
          have hl2 : (xs.take p ++ ys).length = p + ys.length := by rw [List.length_append, hxl]
          rw [hl2, List.getElem?_drop, show p + ys.length + (i - (p + ys.length)) = i by omega] at hd
          have : (p + ys.length) * e ≤ i * e := Nat.mul_le_mul_right _ (by omega)
          rw [Nat.add_mul] at this
          obtain ⟨u, m1, m2⟩ := q5 i j d hd
          exact ⟨u, by rw [if_neg (by omega)]; exact m1, hE.rep hr m2⟩
  exact ⟨hW.1, hW.2, hsz⟩

/-- A copy into a row of the call's own. -/
theorem run_copy_sl {P : Program} {t t' te : TypeId} {E : TyI} (hu : P.underlying t = some (.slice te)) (hE : TyFacts P te E) (hpos : 0 < E.size) (ty : TypeId)
    {c : Ctx} {objs : Objs} {w : World} {o ver off len : Nat} {cap : Option Nat} {xs ys : List (List DC)} {x : CV} {u v : Value} (hr : RelObjs c objs w)
    (hob : objs[o]? = some (ver, .arr E.size xs)) (hol : off + len ≤ xs.length) (hy : contentX objs E.size x = some ys) (hyo : contentOK objs x) (hle : ys.length ≤ len)
    (hs : RelCV c objs w (.sl o ver E.size off len cap) u) (hx : RelCV c objs w x v) :
    ∃ w', (Builtin.copy_ #[t, t'] ty #[u, v]).run P w = .ok (.int .i64 ys.length) w' ∧ Ext objs.length c objs w c (objs.set o (ver, .arr E.size (spliceL xs ys off))) w' ∧
      RelObjs c (objs.set o (ver, .arr E.size (spliceL xs ys off))) w' := by
  obtain ⟨a, xc, vs, rfl, hxc, hvrow, hvrun, hvcl⟩ := run_contentX (P := P) hr hpos hy hyo hx
  have hlive : Live objs o ver := ⟨_, hob, by simp⟩
  obtain ⟨a', cp, rfl, h2, h3, h4⟩ := hs.2.2 hlive
  have hmin : Nat.min ys.length len = ys.length := Nat.min_eq_left hle
  have hone := hvrow.one hpos
  by_cases h0 : 0 < cp
  · obtain ⟨bk, base, cs, T', g1, rfl, g3, g4⟩ := h4 h0
    obtain ⟨k1, k2, k3⟩ := splice_ok (p := off) hr hob g1 g3 hvrow (by omega)
    refine ⟨_, ?_, k1, k2⟩
    have hst := run_storeCells_put (P := P) g3 vs k3 hone
    simp [Builtin.copy_, run_underlying hu, Builtin.lenOf, hmin, hE.run_sizeOf, hvrun w rfl, hst, goInt]
  · have hz : ys.length = 0 := by omega
    have hys : ys = [] := List.eq_nil_of_length_eq_zero hz
    subst hys
    have hvs : vs = [] := by have := hvrow.len; exact List.eq_nil_of_length_eq_zero (by simpa using this)
    subst hvs
    have e1 : spliceL xs [] off = xs := by unfold spliceL; simp
    rw [e1]
    have e2 : objs.set o (ver, .arr E.size xs) = objs := by
      apply List.ext_getElem?
      intro i
      by_cases e : o = i
      · subst e; rw [List.getElem?_set_self (List.getElem?_eq_some_iff.1 hob).1, hob]
      · rw [List.getElem?_set_ne e]
    rw [e2]
    refine ⟨w, ?_, Ext.refl _ _ _ _, hr⟩
    have hr0 := hvrun w rfl
    simp only [List.length_nil] at hr0
    cases a' with
    | none => simp [Builtin.copy_, run_underlying hu, Builtin.lenOf, hE.run_sizeOf, hr0, goInt]
    | some a' => simp [Builtin.copy_, run_underlying hu, Builtin.lenOf, hE.run_sizeOf, hr0, storeCells, goInt]

/-- Append of a part of a row to a part of the same row, in place. -/
theorem run_append_in {P : Program} {t t' te : TypeId} {E : TyI} (hu : P.underlying t = some (.slice te)) (hu' : (∃ e', P.underlying t' = some (.slice e'))) (hE : TyFacts P te E) (hpos : 0 < E.size) (ty : TypeId)
    {c : Ctx} {objs : Objs} {w : World} {o ver off len cap : Nat} {xs ys : List (List DC)} {x : CV} {u v : Value} (hr : RelObjs c objs w)
    (hob : objs[o]? = some (ver, .arr E.size xs)) (hol : off + len + ys.length ≤ xs.length) (hcap : len + ys.length ≤ cap) (hy : contentX objs E.size x = some ys) (hyo : contentOK objs x) (hb : (len + ys.length) * E.bytes ≤ 2 ^ 40) (hb2 : len + ys.length ≤ 2 ^ 40)
    (hs : RelCV c objs w (.sl o ver E.size off len (some cap)) u) (hx : RelCV c objs w x v) :
    ∃ r w', (Builtin.append_ #[t, t'] ty #[u, v]).run P w = .ok r w' ∧ Ext objs.length c objs w c (objs.set o (ver, .arr E.size (spliceL xs ys (off + len)))) w' ∧
      RelObjs c (objs.set o (ver, .arr E.size (spliceL xs ys (off + len)))) w' ∧ RelCV c (objs.set o (ver, .arr E.size (spliceL xs ys (off + len)))) w' (.sl o ver E.size off (len + ys.length) (some cap)) r := by
  have hobj : objAt objs o ver = some (.arr E.size xs) := by simp [objAt, hob]
  have hlen : ((xs.drop off).take len).length = len := by simp; omega
  obtain ⟨b, xc, vs, rfl, hxc, hvrow, hvrun, hvcl⟩ := run_contentX (P := P) hr hpos hy hyo hx
  obtain ⟨a, sc, us, rfl, hsc, hurow, hurun, hucl⟩ := run_contentX (P := P) (x := .sl o ver E.size off len (some cap)) (ys := (xs.drop off).take len) hr hpos (by simp [contentX, objRd_of hobj]) (by simp [contentOK, objRd_of hobj]; omega) hs
  rw [hlen] at hs hsc hurun ⊢
  have hlive : Live objs o ver := ⟨_, hob, by simp⟩
  obtain ⟨a', cp, heq, h2, h3, h4⟩ := hs.2.2 hlive
  simp only [Value.slice.injEq, true_and] at heq
  obtain ⟨rfl, rfl⟩ := heq
  obtain rfl := h3 cap rfl
  have hknown : Known (objs.set o (ver, .arr E.size (spliceL xs ys (off + len)))) o ver := ⟨_, _, getElem?_set_self' hob, Nat.le_refl _⟩
  rcases run_append (P := P) hu hu' hE ty w hurun hvrun hb hb2 with ⟨hfit, hrun⟩ | ⟨hno, _⟩
  · by_cases h0 : 0 < sc
    · obtain ⟨bk, base, cs, T', g1, rfl, g3, g4⟩ := h4 h0
      obtain ⟨k1, k2, k3⟩ := splice_ok (p := off + len) hr hob g1 g3 hvrow hol
      have e1 : base + off * E.size + len * E.size = base + (off + len) * E.size := by rw [Nat.add_mul]; omega
      simp only [add_none, e1, run_storeCells_put g3 vs k3 (hvrow.one hpos), Result.andThen_ok] at hrun
      refine ⟨_, _, hrun, k1, k2, rfl, hknown, fun _ => ⟨_, sc, rfl, hfit, by simp [capOk], fun _ => ⟨bk, base, _, T', g1, rfl, setRow_heap w bk cs _ T' (0, 0) g3, by rw [size_putRow' k3]; exact g4⟩⟩⟩
    · have hz : len = 0 ∧ ys.length = 0 := by omega
      obtain ⟨rfl, hz2⟩ := hz
      have hys : ys = [] := List.eq_nil_of_length_eq_zero hz2
      subst hys
      have hvs : vs = [] := by have := hvrow.len; exact List.eq_nil_of_length_eq_zero (by simpa using this)
      subst hvs
      have e1 : spliceL xs [] (off + 0) = xs := by unfold spliceL; simp
      rw [e1] at hknown ⊢
      have e2 : objs.set o (ver, .arr E.size xs) = objs := by
        apply List.ext_getElem?
        intro i
        by_cases e : o = i
        · subst e; rw [List.getElem?_set_self (List.getElem?_eq_some_iff.1 hob).1, hob]
        · rw [List.getElem?_set_ne e]
      rw [e2] at hknown ⊢
      refine ⟨.slice a 0 sc, w, ?_, Ext.refl _ _ _ _, hr, rfl, hknown, fun _ => ⟨a, sc, rfl, by omega, by simp [capOk], fun h => by omega⟩⟩
      rw [hrun]
      cases a <;> simp [storeCells]
  · omega

end Go.Proofs.Ytmfdkjjhdjkgpaa

namespace Go.Proofs.Ytmfdkjjhdjkgpaa
open Go Go.RowKit

/-- An optional bound, as a number and as a value. -/
def IntOpt : Option Int → Option Value → Prop
  | none, none => True
  | some n, some (.int _ m) => n = m
  | _, _ => False

theorem run_sliceBound {P : Program} {w : World} {k : IntKind} {n : Int} {y : Nat} {code : BoundsCode} (h0 : 0 ≤ n) (h1 : n ≤ y) : (Instr.sliceBound (.int k n) y code).run P w = .ok n.toNat w := by
  simp [Instr.sliceBound, asIntOf, h0, h1]

theorem run_sliceBounds {P : Program} {w : World} {isS : Bool} {len cap : Nat} {lo hi mx : Option Int} {lo' hi' mx' : Option Value} (hl : IntOpt lo lo') (hh : IntOpt hi hi') (hm : IntOpt mx mx')
    (h0 : 0 ≤ lo.getD 0) (h1 : lo.getD 0 ≤ hi.getD len) (h2 : hi.getD len ≤ mx.getD cap) (h3 : mx.getD cap ≤ cap) (h4 : mx = none ∨ hi.isSome = true) :
    (Instr.sliceBounds isS len cap lo' hi' mx').run P w = .ok ((lo.getD 0).toNat, (hi.getD len).toNat, (mx.getD cap).toNat) w := by
  cases mx with
  | none =>
    cases mx' with
    | some _ => exact hm.elim
    | none =>
      cases hi with
      | none =>
        cases hi' with
        | some _ => exact hh.elim
        | none =>
          cases lo with
          | none =>
            cases lo' with
            | some _ => exact hl.elim
            | none => simp [Instr.sliceBounds]
          | some l =>
            match lo', hl with
            | some (.int k l'), hl =>
              obtain rfl := hl
              simp only [Option.getD_some, Option.getD_none] at h0 h1 h2
              simp [Instr.sliceBounds, run_sliceBound (P := P) (w := w) (k := k) h0 h1]
      | some h =>
        match hi', hh with
        | some (.int kh h'), hh =>
          obtain rfl := hh
          simp only [Option.getD_some, Option.getD_none] at h0 h1 h2
          have hb := fun code => run_sliceBound (P := P) (w := w) (k := kh) (code := code) (show 0 ≤ h by omega) h2
          cases lo with
          | none =>
            cases lo' with
            | some _ => exact hl.elim
            | none => simp [Instr.sliceBounds, hb]
          | some l =>
            match lo', hl with
            | some (.int k l'), hl =>
              obtain rfl := hl
              simp only [Option.getD_some] at h0 h1
              have hb2 := fun code => run_sliceBound (P := P) (w := w) (k := k) (n := l) (y := h.toNat) (code := code) h0 (by omega)
              simp [Instr.sliceBounds, hb, hb2]
  | some m =>
    match mx', hm with
    | some (.int km m'), hm =>
      obtain rfl := hm
      cases hi with
      | none => simp at h4
      | some h =>
        match hi', hh with
        | some (.int kh h'), hh =>
          obtain rfl := hh
          simp only [Option.getD_some] at h0 h1 h2 h3
          have hb := fun code => run_sliceBound (P := P) (w := w) (k := km) (code := code) (show 0 ≤ m by omega) h3
          have hb1 := fun code => run_sliceBound (P := P) (w := w) (k := kh) (n := h) (y := m.toNat) (code := code) (by omega) (by omega)
          cases lo with
          | none =>
            cases lo' with
            | some _ => exact hl.elim
            | none => simp [Instr.sliceBounds, hb, hb1]
          | some l =>
            match lo', hl with
            | some (.int k l'), hl =>
              obtain rfl := hl
              simp only [Option.getD_some] at h0 h1
              have hb2 := fun code => run_sliceBound (P := P) (w := w) (k := k) (n := l) (y := h.toNat) (code := code) h0 (by omega)
              simp [Instr.sliceBounds, hb, hb1, hb2]

theorem run_sliceAt {P : Program} {t e : TypeId} {E : TyI} (hu : P.underlying t = some (.slice e)) (hE : TyFacts P e E) {w : World} {a : Option Addr} {len cap : Nat} {lo hi mx : Option Int} {lo' hi' mx' : Option Value} (hl : IntOpt lo lo') (hh : IntOpt hi hi') (hm : IntOpt mx mx')
    (h0 : 0 ≤ lo.getD 0) (h1 : lo.getD 0 ≤ hi.getD len) (h2 : hi.getD len ≤ mx.getD cap) (h3 : mx.getD cap ≤ cap) (h4 : mx = none ∨ hi.isSome = true) :
    (Instr.sliceAt t (.slice a len cap) lo' hi' mx').run P w = .ok (.slice (if (mx.getD cap).toNat = (lo.getD 0).toNat then a else a.map (·.add ((lo.getD 0).toNat * E.size))) ((hi.getD len).toNat - (lo.getD 0).toNat) ((mx.getD cap).toNat - (lo.getD 0).toNat)) w := by
  simp [Instr.sliceAt, Instr.slice, run_underlying hu, run_sliceBounds hl hh hm h0 h1 h2 h3 h4, hE.run_sizeOf]

theorem Rep.cut {w : World} {R : Nat → Prop} {e : Nat} {xs : List (List DC)} {a : Option Addr} {n cap : Nat} (h : Rep w R (.list e xs) (.slice a n cap)) (l k : Nat) (hl : l ≤ k) (hk : k ≤ xs.length) (cap' : Nat) (hc : k - l ≤ cap') :
    Rep w R (.list e ((xs.drop l).take (k - l))) (.slice (if cap' = 0 then a else a.map (·.add (l * e))) (k - l) cap') := by
  cases h with
  | list _ _ _ _ val hc' hlen hcell hrep =>
    have hlen2 : ((xs.drop l).take (k - l)).length = k - l := by simp; omega
    have := Rep.list (w := w) (R := R) e ((xs.drop l).take (k - l)) (if cap' = 0 then a else a.map (·.add (l * e))) cap' (fun i j => val (l + i) j) (by omega)
      (fun x hx => hlen x (List.mem_of_mem_drop (List.mem_of_mem_take hx)))
      (fun i j hi hj => by
        obtain ⟨b, off, rfl, h2, h3⟩ := hcell (l + i) j (by omega) hj
        refine ⟨b, off + l * e, ?_, h2, ?_⟩
        · rw [if_neg (by omega)]; simp [add_none]
        · rw [← h3, Nat.add_mul]; congr 2; omega)
      (fun i j x hx => by
        refine hrep (l + i) j x ?_
        rw [List.getElem?_take] at hx
        split at hx
        · rw [List.getElem?_drop] at hx; exact hx
        · simp at hx)
    rw [hlen2] at this
    exact this

theorem run_sliceX {P : Program} {t e : TypeId} {E : TyI} (hu : P.underlying t = some (.slice e)) (hE : TyFacts P e E) {c : Ctx} {objs : Objs} {w : World} {x : CV} {u : Value} {lo hi mx : Option Int} {lo' hi' mx' : Option Value} (hl : IntOpt lo lo') (hh : IntOpt hi hi') (hm : IntOpt mx mx')
    {K : CV → Prop} (h : sliceX E.size objs x lo hi mx K) (hx : RelCV c objs w x u) :
    ∃ r z, (∀ w' : World, (Instr.sliceAt t u lo' hi' mx').run P w' = .ok r w') ∧ RelCV c objs w z r ∧ K z := by
  unfold sliceX at h
  split at h
  · rename_i ee xs
    replace h := chkP_iff.1 h; obtain ⟨he, h0, h1, h2, h⟩ := h
    obtain ⟨a, cap, rfl, hcap⟩ := Rep.slice_form hx
    cases mx with
    | none =>
      refine ⟨_, _, fun w' => run_sliceAt hu hE hl hh hm h0 h1 (by simp; omega) (by simp) (.inl rfl), ?_, h⟩
      have := Rep.cut hx (lo.getD 0).toNat (hi.getD xs.length).toNat (by omega) (by omega) (cap - (lo.getD 0).toNat) (by omega)
      simp only [Option.getD_none, Int.toNat_natCast, he]
      by_cases hz : cap = (lo.getD 0).toNat
      · rw [if_pos (by omega)] at this ⊢
        exact this
      · rw [if_neg (by omega)] at this ⊢
        exact this
    | some m =>
      obtain ⟨rfl, rfl, h⟩ := h
      refine ⟨_, .esl, fun w' => run_sliceAt hu hE hl hh hm h0 h1 (by simp) (by simp at h2 ⊢; omega) (.inr rfl), ?_, h⟩
      simp only [Option.getD_some, Nat.sub_self, if_true]
      exact ⟨a, rfl⟩
  · rename_i o ver ee off len
    replace h := chkP_iff.1 h; obtain ⟨he, h⟩ := h
    replace h := chkP_iff.1 h; obtain ⟨hal, h0, h1, h2, h⟩ := h
    have hlive := alive_iff hal
    obtain ⟨hone, hkn, hx⟩ := hx
    obtain ⟨a, cp, rfl, k2, k3, k4⟩ := hx hlive
    cases mx with
    | none =>
      refine ⟨_, .sl o ver ee (off + (lo.getD 0).toNat) ((hi.getD len).toNat - (lo.getD 0).toNat) none, fun w' => run_sliceAt hu hE hl hh hm h0 h1 (by simp; omega) (by simp) (.inl rfl), ⟨rfl, hkn, fun _ => ⟨_, cp - (lo.getD 0).toNat, rfl, by omega, by simp [capOk], fun h5 => ?_⟩⟩, h⟩
      have e1 : off + (lo.getD 0).toNat + (cp - (lo.getD 0).toNat) = off + cp := by omega
      have e2 : ¬ cp = (lo.getD 0).toNat := by omega
      have e3 : 0 < cp := by omega
      obtain ⟨b, base, cs, T', g1, rfl, g3, g4⟩ := k4 e3
      refine ⟨b, base, cs, T', g1, ?_, g3, ?_⟩
      · simp only [Option.getD_none, Int.toNat_natCast]
        rw [if_neg e2]
        simp only [Option.map_some, add_none, he]
        rw [Nat.add_mul, Nat.add_assoc]
      · rw [e1]; exact g4
    | some m =>
      obtain ⟨rfl, rfl, h⟩ := h
      refine ⟨_, .esl, fun w' => run_sliceAt hu hE hl hh hm h0 h1 (by simp) (by simp at h2 ⊢; omega) (.inr rfl), ?_, h⟩
      simp only [Option.getD_some, Nat.sub_self, if_true]
      exact ⟨a, rfl⟩
  · rename_i o ver ee off len cap
    replace h := chkP_iff.1 h; obtain ⟨he, h⟩ := h
    replace h := chkP_iff.1 h; obtain ⟨hal, h0, h1, h2, h⟩ := h
    have hlive := alive_iff hal
    obtain ⟨hone, hkn, hx⟩ := hx
    obtain ⟨a, cp, rfl, k2, k3, k4⟩ := hx hlive
    obtain rfl := k3 cap rfl
    cases mx with
    | none =>
      refine ⟨_, .sl o ver ee (off + (lo.getD 0).toNat) ((hi.getD len).toNat - (lo.getD 0).toNat) (some (cp - (lo.getD 0).toNat)), fun w' => run_sliceAt hu hE hl hh hm h0 h1 (by simp; omega) (by simp) (.inl rfl), ⟨rfl, hkn, fun _ => ⟨_, cp - (lo.getD 0).toNat, rfl, by omega, by simp [capOk], fun h5 => ?_⟩⟩, h⟩
      have e1 : off + (lo.getD 0).toNat + (cp - (lo.getD 0).toNat) = off + cp := by omega
      have e2 : ¬ cp = (lo.getD 0).toNat := by omega
      have e3 : 0 < cp := by omega
      obtain ⟨b, base, cs, T', g1, rfl, g3, g4⟩ := k4 e3
      refine ⟨b, base, cs, T', g1, ?_, g3, ?_⟩
      · simp only [Option.getD_none, Int.toNat_natCast]
        rw [if_neg e2]
        simp only [Option.map_some, add_none, he]
        rw [Nat.add_mul, Nat.add_assoc]
      · rw [e1]; exact g4
    | some m =>
      rcases h with ⟨rfl, rfl, h⟩ | ⟨hs', hm1, hm2, h⟩
      · refine ⟨_, .esl, fun w' => run_sliceAt hu hE hl hh hm h0 h1 (by simp) (by simp at h2 ⊢; omega) (.inr rfl), ?_, h⟩
        simp only [Option.getD_some, Nat.sub_self, if_true]
        exact ⟨a, rfl⟩
      · refine ⟨_, .sl o ver ee (off + (lo.getD 0).toNat) ((hi.getD len).toNat - (lo.getD 0).toNat) (some (m.toNat - (lo.getD 0).toNat)), fun w' => run_sliceAt hu hE hl hh hm h0 h1 (by simpa using hm1) (by simpa using hm2) (.inr hs'), ⟨rfl, hkn, fun _ => ⟨_, m.toNat - (lo.getD 0).toNat, rfl, by omega, by simp [capOk], fun h5 => ?_⟩⟩, h⟩
        have e2 : ¬ m.toNat = (lo.getD 0).toNat := by omega
        have e3 : 0 < cp := by omega
        have e4 : off + (lo.getD 0).toNat + (m.toNat - (lo.getD 0).toNat) ≤ off + cp := by omega
        obtain ⟨b, base, cs, T', g1, rfl, g3, g4⟩ := k4 e3
        refine ⟨b, base, cs, T', g1, ?_, g3, ?_⟩
        · simp only [Option.getD_some]
          rw [if_neg e2]
          simp only [Option.map_some, add_none, he]
          rw [Nat.add_mul, Nat.add_assoc]
        · refine Nat.le_trans ?_ g4
          exact Nat.add_le_add_left (Nat.mul_le_mul_right _ e4) _
  · obtain ⟨h0, h1, h2, h3, h⟩ := h
    obtain rfl := hx
    refine ⟨_, .nilsl, fun w' => run_sliceAt hu hE hl hh hm (by omega) (by simp [h0, h1]) (by cases mx <;> simp_all) (by cases mx <;> simp_all) (h3.imp id (fun h => by simp [h])), ?_, h⟩
    have : (mx.getD ((0 : Nat) : Int)) = 0 := by simpa using h2
    simp [h0, h1, h2, RelCV]
  · obtain ⟨h0, h1, h2, h3, h⟩ := h
    obtain ⟨a, rfl⟩ := hx
    refine ⟨_, .esl, fun w' => run_sliceAt hu hE hl hh hm (by omega) (by simp [h0, h1]) (by cases mx <;> simp_all) (by cases mx <;> simp_all) (h3.imp id (fun h => by simp [h])), ?_, h⟩
    simp [h0, h1, h2, RelCV]
  · exact h.elim

theorem run_sliceArrX {P : Program} {t e : TypeId} {n : Nat} {E : TyI} (hu : P.underlying t = some (.array n e)) (hE : TyFacts P e E) {c : Ctx} {objs : Objs} {w : World} {x : CV} {u : Value} {lo hi mx : Option Int} {lo' hi' mx' : Option Value} (hl : IntOpt lo lo') (hh : IntOpt hi hi') (hm : IntOpt mx mx')
    (hr : RelObjs c objs w) {K : CV → Prop} (h : sliceArrX E.size n objs x lo hi mx K) (hx : RelCV c objs w x u) :
    ∃ r z, (∀ w' : World, (Instr.sliceAt t u lo' hi' mx').run P w' = .ok r w') ∧ RelCV c objs w z r ∧ K z := by
  unfold sliceArrX at h
  split at h
  · rename_i o ver p
    split at h
    · rename_i cs hob
      replace h := chkP_iff.1 h; obtain ⟨he, h⟩ := h
      replace h := chkP_iff.1 h; obtain ⟨rfl, h⟩ := h
      replace h := chkP_iff.1 h; obtain ⟨hle, h0, h1, h2, h⟩ := h
      have hm' : mx' = none := by cases mx' with | none => rfl | some v => exact hm.elim
      subst hm'
      obtain ⟨hob, hlive⟩ := objRd_ob hr hob
      obtain ⟨hone, hkn, hx⟩ := hx
      obtain ⟨b, base, g1, rfl⟩ := hx hlive
      obtain ⟨b', base', cs', T', q1, q2, q3, q4⟩ := hob
      rw [g1] at q1
      obtain ⟨rfl, rfl⟩ : b = b' ∧ base = base' := by simpa using q1
      refine ⟨.slice (some (if n = (lo.getD 0).toNat then ⟨b, base + p, none⟩ else (⟨b, base + p, none⟩ : Addr).add ((lo.getD 0).toNat * 1))) ((hi.getD n).toNat - (lo.getD 0).toNat) (n - (lo.getD 0).toNat), _, fun w' => ?_, ?_, h⟩
      · have := run_sliceBounds (P := P) (w := w') (isS := false) (len := n) (cap := n) (mx := none) (mx' := none) hl hh trivial h0 h1 (by simpa using h2) (by simp) (.inl rfl)
        simp [Instr.sliceAt, run_underlying hu, Instr.sureAddr, this, hE.run_sizeOf, he]
      · refine ⟨rfl, hkn, fun _ => ⟨_, n - (lo.getD 0).toNat, rfl, by omega, by rintro c' ⟨rfl⟩; rfl, fun h3 => ⟨b, base, cs', T', g1, ?_, q2, by omega⟩⟩⟩
        rw [if_neg (by omega)]
        simp only [add_none, Nat.mul_one, Nat.add_assoc]
    · exact h.elim
  · exact h.elim

theorem und_of_kind_str {P : Program} {t : TypeId} {T : TyI} (hT : TyFacts P t T) (h : T.kind = .str) : P.underlying t = some .string := by
  rw [hT.kind] at h
  unfold kindX at h
  split at h <;> first | (cases h; done) | (split at h <;> cases h; done) | (rename_i hf; exact hf)

theorem run_strSliceX {P : Program} {t : TypeId} (hu : P.underlying t = some .string) {c : Ctx} {objs : Objs} {w : World} {x : CV} {u : Value} {lo hi mx : Option Int} {lo' hi' mx' : Option Value} (hl : IntOpt lo lo') (hh : IntOpt hi hi') (hm : IntOpt mx mx')
    {K : CV → Prop} (h : strSliceX x lo hi mx K) (hx : RelCV c objs w x u) :
    ∃ r z, (∀ w' : World, (Instr.sliceAt t u lo' hi' mx').run P w' = .ok r w') ∧ RelCV c objs w z r ∧ K z := by
  unfold strSliceX at h
  split at h
  · rename_i s
    obtain ⟨rfl, h0, h1, h2, h⟩ := h
    obtain rfl := Rep.v_inv hx
    have hm' : mx' = none := by cases mx' with | none => rfl | some v => exact hm.elim
    subst hm'
    exact ⟨_, _, fun w' => by
      have := run_sliceBounds (P := P) (w := w') (isS := false) (len := s.size) (cap := s.size) (mx := none) (mx' := none) hl hh trivial h0 h1 (by simpa using h2) (by simp) (.inl rfl)
      simp [Instr.sliceAt, Instr.slice, run_underlying hu, this], relV _ rfl, h⟩
  · exact h.elim

theorem run_lenX {P : Program} {t : TypeId} {T : TyI} (hT : TyFacts P t T) {c : Ctx} {objs : Objs} {w : World} {x : CV} {u : Value} {K : CV → Prop} (ts : Array TypeId) (hts : ts[0]? = some t) (ty : TypeId)
    (h : lenX T.kind objs x K) (hx : RelCV c objs w x u) : ∃ r z, (∀ w', SameOld w w' → (Builtin.len_ ts ty #[u]).run P w' = .ok r w') ∧ RelCV c objs w z r ∧ K z := by
  unfold lenX at h
  split at h
  · rename_i e hk
    have hu := und_of_kind_slice hT hk
    have hrun : ∀ a n cp w', SameOld w w' → (Builtin.len_ ts ty #[.slice a n cp]).run P w' = .ok (.int .i64 n) w' := by
      intro a n cp w' _
      simp [Builtin.len_, hts, run_underlying hu, goInt]
    split at h
    · obtain rfl := hx; exact ⟨_, _, hrun _ _ _, relV _ rfl, h⟩
    · obtain ⟨a, rfl⟩ := hx; exact ⟨_, _, hrun _ _ _, relV _ rfl, h⟩
    · obtain ⟨a, cap, rfl, _⟩ := Rep.slice_form hx
      exact ⟨_, _, hrun _ _ _, relV _ rfl, h⟩
    · replace h := chkP_iff.1 h; obtain ⟨hal, h⟩ := h
      obtain ⟨a, cp, rfl, _⟩ := hx.2.2 (alive_iff hal)
      exact ⟨_, _, hrun _ _ _, relV _ rfl, h⟩
    · replace h := chkP_iff.1 h; obtain ⟨hal, h⟩ := h
      obtain ⟨a, cp, rfl, _⟩ := hx.2.2 (alive_iff hal)
      exact ⟨_, _, hrun _ _ _, relV _ rfl, h⟩
    · exact h.elim
  · rename_i hk
    have hu := und_of_kind_str hT hk
    split at h
    · obtain rfl := Rep.v_inv hx
      exact ⟨_, _, fun _ _ => by simp [Builtin.len_, hts, run_underlying hu, goInt], relV _ rfl, h⟩
    · exact h.elim
  · exact h.elim

end Go.Proofs.Ytmfdkjjhdjkgpaa

namespace Go.Proofs.Ytmfdkjjhdjkgpaa
open Go Go.RowKit

theorem foldl_set (off : Nat) : ∀ (l : List Value) (k : Nat) (cells : Array Value), off + k + l.length ≤ cells.size →
    ((l.zipIdx k).foldl (fun cs (p : Value × Nat) => cs.setIfInBounds (off + p.2) p.1) cells) = putRow' cells (off + k) l
  | [], k, cells, h => by
    apply Array.ext'
    simp [putRow']
  | v :: r, k, cells, h => by
    simp only [List.length_cons] at h
    simp only [List.zipIdx_cons, List.foldl_cons]
    rw [foldl_set off r (k + 1) _ (by simp; omega)]
    apply Array.ext_getElem?
    intro i
    rw [get_putRow' (by simp; omega), get_putRow' (by simp; omega), Array.getElem?_setIfInBounds]
    simp only [List.length_cons]
    by_cases h1 : i = off + k
    · subst h1
      rw [if_neg (by omega), if_pos rfl, if_pos (by omega), if_pos ⟨by omega, by omega⟩]
      simp
    · by_cases h2 : off + (k + 1) ≤ i ∧ i < off + (k + 1) + r.length
      · rw [if_pos h2, if_pos (by omega), show i - (off + k) = (i - (off + (k + 1))) + 1 by omega]
        simp
      · rw [if_neg h2, if_neg (by omega), if_neg (by omega)]

theorem foldl_put {off : Nat} {v : Value} {cells : Array Value} (h : off + v.cells.size ≤ cells.size) :
    (v.cells.zipIdx.foldl (fun cs (c, j) => cs.setIfInBounds (off + j) c) cells) = putRow' cells off v.cells.toList := by
  have := foldl_set off v.cells.toList 0 cells (by simpa using h)
  rw [← Array.foldl_toList, Array.toList_zipIdx]
  simpa using this

/-- Parts: abstract ones and the values that they stand for. -/
def RelParts (c : Ctx) (objs : Objs) (w : World) : List (Nat × List CV) → List (Nat × Value) → Prop
  | [], [] => True
  | (i, xs) :: r, (j, v) :: s => i = j ∧ RelCs c objs w xs v.cells.toList ∧ RelParts c objs w r s
  | _, _ => False

theorem run_fillX {c : Ctx} {objs : Objs} {w : World} {fs : List (Nat × Nat)} : ∀ (ps : List (Nat × List CV)) (vs : List (Nat × Value)) (xs ys : List CV) (cells : Array Value),
    fillX fs xs ps = some ys → RelParts c objs w ps vs → RelCs c objs w xs cells.toList → ∃ cells', Instr.fill (fun i => fs[i]?) cells vs = some cells' ∧ RelCs c objs w ys cells'.toList
  | [], [], xs, ys, cells, h, _, hr => by obtain rfl := Option.some.inj h; exact ⟨cells, rfl, hr⟩
  | [], _ :: _, _, _, _, _, hp, _ => hp.elim
  | _ :: _, [], _, _, _, _, hp, _ => hp.elim
  | (i, x) :: r, (j, v) :: s, xs, ys, cells, h, hp, hr => by
    obtain ⟨rfl, hv, hp⟩ := hp
    unfold fillX at h
    split at h
    · rename_i off n hf
      split at h
      · rename_i hc
        obtain ⟨h1, h2⟩ := hc
        have hvs : v.cells.size = n := by have := hv.1; simpa [h1] using this
        have hcs : cells.size = xs.length := by have := hr.1; simpa using this
        have hfit : off + v.cells.toList.length ≤ cells.size := by simp [hvs, hcs]; omega
        have hr2 : RelCs c objs w (setCells xs off x) (putRow' cells off v.cells.toList).toList := by
          refine ⟨by rw [length_setCells, Array.length_toList, size_putRow' hfit, hcs], fun k y hy => ?_⟩
          rw [get_setCells _ _ _ _ (by omega)] at hy
          rw [Array.getElem?_toList, get_putRow' hfit]
          have hvl : v.cells.toList.length = x.length := hv.1
          by_cases hk : off ≤ k ∧ k < off + x.length
          · rw [if_pos hk] at hy
            obtain ⟨u, k1, k2⟩ := hv.2 _ _ hy
            exact ⟨u, by rw [if_pos (by omega), k1], k2⟩
          · rw [if_neg hk] at hy
            obtain ⟨u, k1, k2⟩ := hr.2 _ _ hy
            exact ⟨u, by rw [if_neg (by omega), ← k1, Array.getElem?_toList], k2⟩
        obtain ⟨cells', k1, k2⟩ := run_fillX r s _ ys _ h hp hr2
        refine ⟨cells', ?_, k2⟩
        unfold Instr.fill
        simp only [hf]
        rw [if_neg (by simp [hvs]; omega), foldl_put (by omega)]
        exact k1
      · cases h
    · cases h

theorem run_buildX {P : Program} {t : TypeId} {T : TyI} (hT : TyFacts P t T) {fs : List (Nat × Nat)} (hk : T.kind = .struct fs) {c : Ctx} {objs : Objs} {w : World} {ps : List (Nat × List CV)} {ys : List CV} {parts : Array (Nat × Value)}
    (h : fillX fs T.zero ps = some ys) (hp : RelParts c objs w ps parts.toList) : ∃ cells, (∀ w', (Instr.build t parts).run P w' = .ok (.agg cells) w') ∧ RelCs c objs w ys cells.toList := by
  obtain ⟨fields, h1, hm⟩ := und_of_kind_struct hT hk
  have hz : RelCs c objs w T.zero hT.z.cells.toList := by
    rw [hT.zeros]
    refine ⟨by simp, fun i x hx => ?_⟩
    simp only [List.getElem?_map, Option.map_eq_some_iff] at hx
    obtain ⟨u, h1, rfl⟩ := hx
    exact ⟨u, h1, rel_constCV _ _ _ _ (hT.ones u (List.mem_of_getElem? h1))⟩
  obtain ⟨cells, h2, h3⟩ := run_fillX ps parts.toList _ _ _ h hp hz
  refine ⟨cells, fun w' => run_build w' t parts cells ?_, h3⟩
  unfold Program.built
  simp only [hT.info, h1, hT.zero, hm]
  simpa using h2

theorem run_build_arr {P : Program} {t e : TypeId} {n : Nat} {T E : TyI} (hT : TyFacts P t T) (hk : T.kind = .array n e) (hE : TyFacts P e E) {c : Ctx} {objs : Objs} {w : World} {parts : Array (Nat × Value)} (hp : parts.toList = []) :
    (Instr.build t parts).run P w = .ok (.agg hT.z.cells) w ∧ RelCs c objs w T.zero hT.z.cells.toList := by
  refine ⟨?_, ?_⟩
  · simp [Instr.build, hT.run_zero, run_underlying (und_of_kind_array hT hk), hE.run_sizeOf, hp, Instr.fill]
  · rw [hT.zeros]
    refine ⟨by simp, fun i x hx => ?_⟩
    simp only [List.getElem?_map, Option.map_eq_some_iff] at hx
    obtain ⟨u, h1, rfl⟩ := hx
    exact ⟨u, h1, rel_constCV _ _ _ _ (hT.ones u (List.mem_of_getElem? h1))⟩

theorem run_fill_slice {c : Ctx} {objs : Objs} {w : World} {e : Nat} : ∀ (ps : List (Nat × List CV)) (vs : List (Nat × Value)) (xs ys : List (List DC)) (cells : Array Value),
    buildSliceX e xs ps = some ys → RelParts c objs w ps vs → RepRow w c.R e xs cells.toList → ∃ cells', Instr.fill (fun i => some (i * e, e)) cells vs = some cells' ∧ RepRow w c.R e ys cells'.toList ∧ ys.length = xs.length
  | [], [], xs, ys, cells, h, _, hr => by obtain rfl := Option.some.inj h; exact ⟨cells, rfl, hr, rfl⟩
  | [], _ :: _, _, _, _, _, hp, _ => hp.elim
  | _ :: _, [], _, _, _, _, hp, _ => hp.elim
  | (i, x) :: r, (j, v) :: s, xs, ys, cells, h, hp, hr => by
    obtain ⟨rfl, hv, hp⟩ := hp
    unfold buildSliceX at h
    split at h
    · rename_i ds hds
      split at h
      · rename_i hc
        obtain ⟨h1, h2⟩ := hc
        obtain ⟨d1, d2⟩ := dcsOf_spec hds
        have hvl : v.cells.toList.length = x.length := hv.1
        have hvs : v.cells.size = e := by have := hvl; simp at this; omega
        have hcs : cells.size = xs.length * e := by have := hr.len; simpa using this
        have hm : (i + 1) * e ≤ xs.length * e := Nat.mul_le_mul_right e h2
        rw [Nat.succ_mul] at hm
        have hset := hr.set (vs := v.cells.toList) h2 h1 (by simp [hvs]) (fun j d hd => by
          have hj := (List.getElem?_eq_some_iff.1 hd).1
          obtain ⟨d', k1, k2⟩ := d2 j x[j] (List.getElem?_eq_getElem (by omega))
          rw [k1] at hd
          obtain rfl := Option.some.inj hd
          obtain ⟨u, m1, m2⟩ := hv.2 j _ (List.getElem?_eq_getElem (by omega))
          exact ⟨u, m1, rep_dcOf k2 m2⟩)
        have heq : (putRow' cells (i * e) v.cells.toList).toList = cells.toList.take (i * e) ++ v.cells.toList ++ cells.toList.drop (i * e + e) := by simp [putRow', hvs]
        rw [← heq] at hset
        obtain ⟨cells', k1, k2, k3⟩ := run_fill_slice r s _ ys _ h hp hset
        refine ⟨cells', ?_, k2, by rw [k3]; simp⟩
        unfold Instr.fill
        simp only
        rw [if_neg (by simp [hvs]; omega), foldl_put (by rw [hvs]; omega)]
        exact k1
      · cases h
    · cases h

theorem zero_row {P : Program} {t : TypeId} {T : TyI} (hT : TyFacts P t T) {c : Ctx} {w : World} {z : List DC} (hz : dcsOf T.zero = some z) (n : Nat) :
    RepRow w c.R T.size (List.replicate n z) ((Array.range (n * T.size)).map (hT.z.cells[· % hT.z.cells.size]!)).toList := by
  have hsz : hT.z.cells.size = T.size := by rw [hT.zsize, hT.size]
  obtain ⟨h1, h2⟩ := dcsOf_spec hz
  have hzl : z.length = T.size := by rw [h1, hT.zeros]; simp [hsz]
  refine ⟨by simp, fun x hx => by rw [List.eq_of_mem_replicate hx, hzl], fun i j d hd => ?_⟩
  have hlens : ∀ x ∈ List.replicate n z, x.length = T.size := fun x hx => by rw [List.eq_of_mem_replicate hx, hzl]
  obtain ⟨k1, k2, k3⟩ := row_lt hlens hd
  rw [List.length_replicate] at k1 k3
  simp only [List.getElem?_replicate, k1, if_true, Option.bind_some] at hd
  have hj : j < hT.z.cells.size := by omega
  have hzero : T.zero[j]? = some (constCV hT.z.cells[j]) := by rw [hT.zeros]; simp [hj]
  obtain ⟨d', m1, m2⟩ := h2 j _ hzero
  rw [m1] at hd
  obtain rfl := Option.some.inj hd
  refine ⟨hT.z.cells[j], ?_, rep_dcOf (c := c) (objs := []) m2 (rel_constCV _ _ _ _ (hT.ones _ (by simp)))⟩
  have hmod : (i * T.size + j) % T.size = j := by rw [Nat.mul_comm, Nat.mul_add_mod, Nat.mod_eq_of_lt k2]
  simp [k3, hsz, hmod, getElem!_pos hT.z.cells j hj]

/-- Elements of a row of one's own, set to nought. -/
theorem run_clear_sl {P : Program} {t te : TypeId} {E : TyI} (hu : P.underlying t = some (.slice te)) (hE : TyFacts P te E) (hpos : 0 < E.size) (ty : TypeId)
    {c : Ctx} {objs : Objs} {w : World} {o ver off len : Nat} {cap : Option Nat} {xs : List (List DC)} {z : List DC} {u : Value} (hr : RelObjs c objs w) (hz : dcsOf E.zero = some z)
    (hob : objs[o]? = some (ver, .arr E.size xs)) (hol : off + len ≤ xs.length) (hs : RelCV c objs w (.sl o ver E.size off len cap) u) :
    ∃ w', (Builtin.clear_ #[t] ty #[u]).run P w = .ok (.tuple #[]) w' ∧ Ext objs.length c objs w c (objs.set o (ver, .arr E.size (spliceL xs (List.replicate len z) off))) w' ∧
      RelObjs c (objs.set o (ver, .arr E.size (spliceL xs (List.replicate len z) off))) w' := by
  have hlive : Live objs o ver := ⟨_, hob, by simp⟩
  obtain ⟨a, cp, rfl, h2, h3, h4⟩ := hs.2.2 hlive
  by_cases h0 : len = 0
  · subst h0
    have e1 : spliceL xs (List.replicate 0 z) off = xs := by unfold spliceL; simp
    have e2 : objs.set o (ver, .arr E.size xs) = objs := by
      apply List.ext_getElem?
      intro i
      by_cases e : o = i
      · subst e; rw [List.getElem?_set_self (List.getElem?_eq_some_iff.1 hob).1, hob]
      · rw [List.getElem?_set_ne e]
    rw [e1, e2]
    refine ⟨w, ?_, Ext.refl _ _ _ _, hr⟩
    cases a <;> simp [Builtin.clear_, run_underlying hu]
  · obtain ⟨bk, base, cs, T', g1, rfl, g3, g4⟩ := h4 (by omega)
    have hzr := zero_row hE (c := c) (w := w) hz len
    obtain ⟨k1, k2, k3⟩ := splice_ok (p := off) hr hob g1 g3 hzr (by simpa using hol)
    refine ⟨_, ?_, k1, k2⟩
    have hst := run_storeCells_put (P := P) g3 _ k3 (hzr.one hpos)
    have hzs : hE.z.cells.size = E.size := by rw [hE.zsize, hE.size]
    obtain ⟨m, rfl⟩ : ∃ m, len = m + 1 := ⟨len - 1, by omega⟩
    have hzc : (Builtin.zeroCells hE.z.cells (m + 1)).toList = ((Array.range ((m + 1) * E.size)).map (hE.z.cells[· % hE.z.cells.size]!)).toList := by
      unfold Builtin.zeroCells
      rw [hzs]
    simp only [Builtin.clear_, hE.run_zero, run_underlying hu, hzc, hst, Sem.run_bind, Sem.run_pure, Result.andThen_ok, List.getElem?_toArray, List.getElem?_cons_zero]

theorem new_row {c : Ctx} {objs : Objs} {w : World} {e len cap : Nat} {T : TypeId} {ys : List (List DC)} {cells : Array Value} (hr : RelObjs c objs w) (hrow : RepRow w c.R e ys cells.toList) (hlen : ys.length = cap) (hle : len ≤ cap) :
    ∃ c', Ext objs.length c objs w c' (objs ++ [(0, .arr e ys)]) (w.alloc (.cells cells T)) ∧ RelObjs c' (objs ++ [(0, .arr e ys)]) (w.alloc (.cells cells T)) ∧
      RelCV c' (objs ++ [(0, .arr e ys)]) (w.alloc (.cells cells T)) (.sl objs.length 0 e 0 len (some cap)) (.slice (some ⟨w.heap.size, 0, none⟩) len cap) := by
  have hE := new_ext (c := c) (objs := objs) (w := w) (ob := .cells cells T) (x := (0, .arr e ys))
  have hsz : cells.size = ys.length * e := by have := hrow.len; simpa using this
  refine ⟨_, hE, new_objs hr (relOB_row (b := w.heap.size) (base := 0) (by simp [Ctx.at]) (heap_alloc_new w _) (hrow.ext hE hr) (by omega) (fun p u hp => by rw [Nat.zero_add]; simpa using hp)),
    rfl, ⟨0, .arr e ys, by simp, Nat.le_refl _⟩, fun _ => ⟨_, cap, rfl, hle, by rintro c' ⟨rfl⟩; rfl, fun _ => ⟨w.heap.size, 0, cells, T, by simp [Ctx.at], by simp, heap_alloc_new w _, by rw [hsz, hlen]; simp⟩⟩⟩

theorem new_grid {c : Ctx} {objs : Objs} {w : World} {e len cap : Nat} {T : TypeId} {ys : List (List DC)} {cells : Array Value} (hr : RelObjs c objs w) (hrow : RepRow w c.R e ys cells.toList) (hlen : ys.length = cap) (hle : len ≤ cap) :
    ∃ c', Ext objs.length c objs w c' (objs ++ [(0, .grid e (ys.map (·.map GC.d)))]) (w.alloc (.cells cells T)) ∧ RelObjs c' (objs ++ [(0, .grid e (ys.map (·.map GC.d)))]) (w.alloc (.cells cells T)) ∧
      RelCV c' (objs ++ [(0, .grid e (ys.map (·.map GC.d)))]) (w.alloc (.cells cells T)) (.sl objs.length 0 e 0 len (some cap)) (.slice (some ⟨w.heap.size, 0, none⟩) len cap) := by
  have hE := new_ext (c := c) (objs := objs) (w := w) (ob := .cells cells T) (x := (0, .grid e (ys.map (·.map GC.d))))
  have hsz : cells.size = ys.length * e := by have := hrow.len; simpa using this
  refine ⟨_, hE, new_objs hr ⟨w.heap.size, 0, cells, T, by simp [Ctx.at], heap_alloc_new w _, by simp [hsz], ?_, fun i j g hg => ?_, fun p b' base' h => ?_, fun p p' b' base' base'' h => ?_, fun p x h => ?_⟩,
    rfl, ⟨0, _, by simp; rfl, Nat.le_refl _⟩, fun _ => ⟨_, cap, rfl, hle, by rintro c' ⟨rfl⟩; rfl, fun _ => ⟨w.heap.size, 0, cells, T, by simp [Ctx.at], by simp, heap_alloc_new w _, by rw [hsz, hlen]; simp⟩⟩⟩
  · intro x hx
    obtain ⟨y, hy, rfl⟩ := List.mem_map.1 hx
    simpa using hrow.lens y hy
  · simp only [List.getElem?_map] at hg
    cases hy : ys[i]? with
    | none => simp [hy] at hg
    | some y =>
      rw [hy] at hg
      simp only [Option.map_some, Option.bind_some, List.getElem?_map, Option.map_eq_some_iff] at hg
      obtain ⟨d, hd, rfl⟩ := hg
      obtain ⟨u, k1, k2⟩ := hrow.rep i j d (by simp [hy, hd])
      exact ⟨u, by simpa using k1, hE.rep hr k2⟩
  · simp [Ctx.at] at h
  · simp [Ctx.at] at h
  · simp [Ctx.at] at h

theorem wrap_i64 (x : Int) (h0 : -9223372036854775808 ≤ x) (h1 : x ≤ 9223372036854775807) : IntKind.i64.wrap x = x := by
  have h : IntKind.i64.wrap x = if x % 18446744073709551616 ≥ 9223372036854775808 then x % 18446744073709551616 - 18446744073709551616 else x % 18446744073709551616 := by
    simp [IntKind.wrap, IntKind.bits, IntKind.signed]
  rw [h]
  split <;> omega

theorem run_makeSlice' {P : Program} {t e : TypeId} {E : TyI} (hu : P.underlying t = some (.slice e)) (hE : TyFacts P e E) (hpos : 0 < E.size) {w : World} {k k' : IntKind} {l cp : Int} (h0 : 0 ≤ l) (h1 : l ≤ cp) (h2 : cp * E.bytes ≤ 2 ^ 46) (h3 : cp ≤ 2 ^ 46) :
    (Instr.makeSlice t (.int k l) (.int k' cp)).run P w = .ok (.slice (some ⟨w.heap.size, 0, none⟩) l.toNat cp.toNat) (w.alloc (.cells ((Array.range (cp.toNat * E.size)).map (hE.z.cells[· % hE.z.cells.size]!)) e)) := by
  have hw : ∀ x : Int, 0 ≤ x → x ≤ 2 ^ 46 → IntKind.i64.wrap x = x := by
    intro x h1 h2
    exact wrap_i64 x (by omega) (by omega)
  have hask : ∀ n w', (askRoom n).run P w' = .ok () w' := by
    intro n w'
    unfold askRoom
    split <;> simp [mark, Sem.run]
  have hb : hE.i.bytes = E.bytes := hE.bytes.symm
  have hsz : hE.z.cells.size = E.size := by rw [hE.zsize, hE.size]
  have hl : (E.bytes : Int) * l ≤ 2 ^ 46 := by
    have : l * (E.bytes : Int) ≤ cp * E.bytes := Int.mul_le_mul_of_nonneg_right h1 (by omega)
    rw [Int.mul_comm]; omega
  have hc : (E.bytes : Int) * cp ≤ 2 ^ 46 := by rw [Int.mul_comm]; omega
  have t1 : ¬ (281474976710656 : Int) < (E.bytes : Int) * cp := by omega
  have t2 : ¬ cp < 0 := by omega
  have t3 : ¬ l < 0 := by omega
  have t4 : ¬ cp < l := by omega
  by_cases hz : cp.toNat * E.size = 0
  · have hcp : cp.toNat = 0 := by
      rcases Nat.mul_eq_zero.1 hz with h | h
      · exact h
      · omega
    simp [Instr.makeSlice, run_underlying hu, asInt, asIntOf, hE.run_typeInfo, hE.run_sizeOf, hb, hw l h0 (by omega), hw cp (by omega) h3, t1, t2, t3, t4, hask, newRow, hcp]
    congr 2
    apply Array.ext'
    simp
  · simp [Instr.makeSlice, run_underlying hu, asInt, asIntOf, hE.run_typeInfo, hE.run_sizeOf, hE.run_zero, hb, hw l h0 (by omega), hw cp (by omega) h3, t1, t2, t3, t4, hask, newRow, hz]

end Go.Proofs.Ytmfdkjjhdjkgpaa

namespace Go.Proofs.Ytmfdkjjhdjkgpaa
open Go Go.RowKit

/-- The context in which object o lies at p, its rows where s says. -/
def Ctx.re (c : Ctx) (o : Nat) (p : Nat × Nat) (s : Nat → Option (Nat × Nat)) : Ctx := { φ := fun k => if k = o then some p else c.φ k, R := c.R, ψ := fun k => if k = o then s else c.ψ k }

theorem re_other {c : Ctx} {o k : Nat} {p : Nat × Nat} {s : Nat → Option (Nat × Nat)} (h : k ≠ o) : (c.re o p s).φ k = c.φ k ∧ (c.re o p s).ψ k = c.ψ k := by simp [Ctx.re, h]

theorem has_re_other {c : Ctx} {o k b : Nat} {p : Nat × Nat} {s : Nat → Option (Nat × Nat)} (h : k ≠ o) : (c.re o p s).has k b ↔ c.has k b := by
  unfold Ctx.has; rw [(re_other h).1, (re_other h).2]

theorem has_re_self {c : Ctx} {o b : Nat} {p : Nat × Nat} {s : Nat → Option (Nat × Nat)} : (c.re o p s).has o b ↔ p.1 = b ∨ ∃ q base, s q = some (b, base) := by
  unfold Ctx.has Ctx.re
  simp only [if_pos]
  constructor
  · rintro (⟨base, h⟩ | h)
    · exact .inl (by rw [Option.some.inj h])
    · exact .inr h
  · rintro (h | h)
    · exact .inl ⟨p.2, by rw [← h]⟩
    · exact .inr h

/-- An object gets a new version, its rows and those of another object, which is gone. -/
theorem regrid_ok {c : Ctx} {objs : Objs} {w w' : World} {o ver o' ver' : Nat} {bd bd2 bd' : OB} {p : Nat × Nat} {s : Nat → Option (Nat × Nat)} (hr : RelObjs c objs w)
    (ho : objs[o]? = some (ver, bd)) (hd : bd.mine = true) (ho' : objs[o']? = some (ver', bd2)) (hd2 : bd2.mine = true) (hne : o' ≠ o) (hm' : bd'.mine = true)
    (hsize : w.heap.size ≤ w'.heap.size) (ht : w'.tape = w.tape) (hos : w'.os = w.os) (hout : w'.output = w.output)
    (hkeep : ∀ k : Nat, k < w.heap.size → (∀ base, c.φ o ≠ some (k, base)) → w'.heap[k]? = w.heap[k]?)
    (hshape : ∀ (b : Nat) cs T, w.heap[b]? = some (Obj.cells cs T (0, 0)) → ∃ cs', w'.heap[b]? = some (Obj.cells cs' T (0, 0)) ∧ cs'.size = cs.size)
    (hp : (∃ base', c.φ o = some (p.1, base')) ∨ (w.heap.size ≤ p.1 ∧ p.1 < w'.heap.size))
    (hs : ∀ q b base, s q = some (b, base) → c.has o b ∨ c.has o' b)
    (hn : Ext objs.length c objs w (c.re o p s) ((objs.set o (ver + 1, bd')).set o' (ver', .dead)) w' → RelOB (c.re o p s) ((objs.set o (ver + 1, bd')).set o' (ver', .dead)) w' o bd') :
    Ext objs.length c objs w (c.re o p s) ((objs.set o (ver + 1, bd')).set o' (ver', .dead)) w' ∧ RelObjs (c.re o p s) ((objs.set o (ver + 1, bd')).set o' (ver', .dead)) w' := by
  have hlt' : o' < (objs.set o (ver + 1, bd')).length := by simp; exact (List.getElem?_eq_some_iff.1 ho').1
  have hobs : ∀ {o1 v1 : Nat} {b1 : OB}, ((objs.set o (ver + 1, bd')).set o' (ver', OB.dead))[o1]? = some (v1, b1) →
      (o1 = o' ∧ b1 = .dead) ∨ (o1 = o ∧ v1 = ver + 1 ∧ b1 = bd') ∨ (o1 ≠ o ∧ o1 ≠ o' ∧ objs[o1]? = some (v1, b1)) := by
    intro o1 v1 b1 h
    by_cases e1 : o1 = o'
    · subst e1
      rw [List.getElem?_set_self hlt'] at h
      simp only [Option.some.injEq, Prod.mk.injEq] at h
      exact .inl ⟨rfl, h.2.symm⟩
    · rw [List.getElem?_set_ne (Ne.symm e1)] at h
      rcases set_cases ho h with ⟨rfl, h4⟩ | ⟨hn, h4⟩
      · simp only [Prod.mk.injEq] at h4
        exact .inr (.inl ⟨rfl, h4⟩)
      · exact .inr (.inr ⟨hn, e1, h4⟩)
  have hnew : ∀ b, (c.re o p s).has o b → c.has o b ∨ c.has o' b ∨ (w.heap.size ≤ b ∧ b < w'.heap.size) := by
    intro b hb
    rcases has_re_self.1 hb with h | ⟨q, base, h⟩
    · subst h
      rcases hp with ⟨base', h⟩ | h
      · exact .inl (.inl ⟨_, h⟩)
      · exact .inr (.inr h)
    · rcases hs q b base h with h | h
      · exact .inl h
      · exact .inr (.inl h)
  have hown2 : ∀ b, Own (c.re o p s) ((objs.set o (ver + 1, bd')).set o' (ver', OB.dead)) b → Own c objs b ∨ (w.heap.size ≤ b ∧ b < w'.heap.size) := by
    rintro b ⟨o1, v1, b1, h1, h2, h3⟩
    rcases hobs h1 with ⟨_, rfl⟩ | ⟨rfl, _, _⟩ | ⟨hn1, _, h4⟩
    · cases h2
    · rcases hnew b h3 with h | h | h
      · exact .inl (.mk' ho hd h)
      · exact .inl (.mk' ho' hd2 h)
      · exact .inr h
    · exact .inl (.mk' h4 h2 ((has_re_other hn1).1 h3))
  have hE : Ext objs.length c objs w (c.re o p s) ((objs.set o (ver + 1, bd')).set o' (ver', OB.dead)) w' := by
    refine ⟨hsize, ht, hos, hout, ?_, hshape, fun b hb => (hown2 b hb).imp id (·.1), fun _ h => h, fun _ h => .inl h, ?_⟩
    · intro b hb hno
      exact hkeep b hb (fun base h => hno (.of ho hd h))
    · intro o1 cur bd1 _ h1
      by_cases e1 : o1 = o'
      · subst e1
        rw [ho'] at h1
        simp only [Option.some.injEq, Prod.mk.injEq] at h1
        exact ⟨ver', .dead, by rw [List.getElem?_set_self hlt'], by omega, fun _ h => (h rfl).elim⟩
      · by_cases e2 : o1 = o
        · subst e2
          rw [ho] at h1
          simp only [Option.some.injEq, Prod.mk.injEq] at h1
          exact ⟨ver + 1, bd', by rw [List.getElem?_set_ne (Ne.symm e1), getElem?_set_self' ho], by omega, fun h _ => by omega⟩
        · exact ⟨cur, bd1, by rw [List.getElem?_set_ne (Ne.symm e1), List.getElem?_set_ne (Ne.symm e2)]; exact h1, Nat.le_refl _, fun _ h => ⟨h, (re_other e2).1, fun q x hx => by rw [(re_other e2).2]; exact hx⟩⟩
  refine ⟨hE, ?_, ?_, ?_, ?_, ?_⟩
  · intro o1 v1 b1 h1
    rcases hobs h1 with ⟨_, rfl⟩ | ⟨rfl, rfl, rfl⟩ | ⟨hn1, hn2, h4⟩
    · exact trivial
    · exact hn hE
    · by_cases hdead : b1 = .dead
      · subst hdead; exact trivial
      refine RelOB.keep hE (Nat.le_refl _) hr (re_other hn1).1 (re_other hn1).2 (fun b hpp => hkeep b (hr.lsize o1 v1 b1 b h4 hdead hpp) ?_) (hr.ob o1 v1 b1 h4)
      intro base' hpo
      exact hn1 (hr.inj o o1 ver v1 bd b1 b ho hd h4 hdead (.inl ⟨_, hpo⟩) hpp).symm
  · intro o1 o2 v1 v2 b1 b2 b h1 d1 h2 d2 p1 p2
    have far : ∀ {o2 v2 : Nat} {b2 : OB}, o2 ≠ o → o2 ≠ o' → objs[o2]? = some (v2, b2) → b2 ≠ .dead → c.has o2 b → ¬ (c.re o p s).has o b := by
      intro o2 v2 b2 n1 n2 h4 d h5 h6
      rcases hnew b h6 with h | h | h
      · exact n1 (hr.inj _ _ _ _ _ _ b ho hd h4 d h h5).symm
      · exact n2 (hr.inj _ _ _ _ _ _ b ho' hd2 h4 d h h5).symm
      · have := hr.lsize _ _ _ b h4 d h5; omega
    rcases hobs h1 with ⟨_, rfl⟩ | ⟨rfl, _, _⟩ | ⟨n1, n1', h4⟩
    · cases d1
    · rcases hobs h2 with ⟨_, rfl⟩ | ⟨rfl, _, _⟩ | ⟨n2, n2', h5⟩
      · exact (d2 rfl).elim
      · rfl
      · exact (far n2 n2' h5 d2 ((has_re_other n2).1 p2) p1).elim
    · rcases hobs h2 with ⟨_, rfl⟩ | ⟨rfl, _, _⟩ | ⟨n2, n2', h5⟩
      · exact (d2 rfl).elim
      · exact (far n1 n1' h4 (OB.mine_live d1) ((has_re_other n1).1 p1) p2).elim
      · exact hr.inj _ _ _ _ _ _ b h4 d1 h5 d2 ((has_re_other n1).1 p1) ((has_re_other n2).1 p2)
  · intro b hb
    have := hr.rsize b hb
    omega
  · intro o1 v1 b1 b h1 h2 h3
    rcases hobs h1 with ⟨_, rfl⟩ | ⟨rfl, _, _⟩ | ⟨n1, _, h4⟩
    · exact (h2 rfl).elim
    · rcases hnew b h3 with h | h | h
      · have := hr.lsize _ _ _ b ho (OB.mine_live hd) h; omega
      · have := hr.lsize _ _ _ b ho' (OB.mine_live hd2) h; omega
      · exact h.2
    · have := hr.lsize _ _ _ b h4 h2 ((has_re_other n1).1 h3); omega
  · intro b hb
    rcases hown2 b hb with h | h
    · exact hr.oR b h
    · intro hR
      have := hr.rsize b hR; omega

/-- A cell of an object's rows, seen as one of another. -/
theorem RelGC.move {n : Nat} {c c' : Ctx} {objs objs' : Objs} {w w' : World} (h : Ext n c objs w c' objs' w') (hr : RelObjs c objs w) {o p o1 p1 : Nat} {g : GC} {u : Value}
    (hψ : ∀ x, c.ψ o p = some x → c'.ψ o1 p1 = some x) (hb : ∀ b base, c.ψ o p = some (b, base) → w'.heap[b]? = w.heap[b]?) (ho : RelGC c w o p g u) : RelGC c' w' o1 p1 g u := by
  cases g with
  | d x => exact h.rep hr ho
  | row e ys =>
    obtain ⟨a, cp, rfl, h1, h2, h3⟩ := ho
    refine ⟨a, cp, rfl, h1, h2, fun h0 => ?_⟩
    obtain ⟨b, base, cs, T, k1, k2, k3, k4, k5⟩ := h3 h0
    refine ⟨b, base, cs, T, hψ _ k1, k2, (hb _ _ k1).trans k3, k4, fun i j d hd => ?_⟩
    obtain ⟨u, m1, m2⟩ := k5 i j d hd
    exact ⟨u, m1, h.rep hr m2⟩

/-- What is known of a row of the call's own whose cells may hold rows: all of it. -/
structure Outer (P : Program) (c : Ctx) (w : World) (o e : Nat) (xs : List (List GC)) (u : Value) (us : List Value) (a : Option Addr) (sc : Nat) : Prop where
  val : u = .slice a xs.length sc
  fit : xs.length ≤ sc
  len : us.length = xs.length * e
  run : ∀ w' : World, w'.heap = w.heap → (Builtin.firstCells e xs.length u).run P w' = .ok us.toArray w'
  at_ : 0 < sc → ∃ b base cs T, c.φ o = some (b, base) ∧ a = some ⟨b, base, none⟩ ∧ w.heap[b]? = some (.cells cs T (0, 0)) ∧ base + sc * e ≤ cs.size ∧ ∀ (p : Nat) v, us[p]? = some v → cs[base + p]? = some v
  rel : ∀ (i j : Nat) g, (xs[i]?.bind (·[j]?)) = some g → ∃ v, us[i * e + j]? = some v ∧ RelGC c w o (i * e + j) g v
  lens : ∀ x ∈ xs, x.length = e
  sep : ∀ p b' base', xs ≠ [] → c.ψ o p = some (b', base') → ∀ base, c.φ o ≠ some (b', base)
  inj : ∀ p p' b' base' base'', xs ≠ [] → c.ψ o p = some (b', base') → c.ψ o p' = some (b', base'') → p = p'
  row : ∀ p x, xs ≠ [] → c.ψ o p = some x → ∃ y e' ys, xs[p / e]? = some y ∧ y[p % e]? = some (.row e' ys)

/-- The object is a row that holds rows, or an empty row. -/
def isOuter (e : Nat) (xs : List (List GC)) (bd : OB) : Prop := bd = .grid e xs ∨ (bd = .arr e [] ∧ xs = [])

theorem outer_of {P : Program} {c : Ctx} {objs : Objs} {w : World} {o ver e : Nat} {cap : Option Nat} {xs : List (List GC)} {bd : OB} {u : Value} (hr : RelObjs c objs w) (he : 0 < e)
    (ho : objs[o]? = some (ver, bd)) (hbd : isOuter e xs bd) (hs : RelCV c objs w (.sl o ver e 0 xs.length cap) u) : ∃ us a sc, Outer P c w o e xs u us a sc := by
  have hlive : Live objs o ver := ⟨bd, ho, by rcases hbd with rfl | ⟨rfl, _⟩ <;> simp⟩
  obtain ⟨a, sc, rfl, h2, _, h4⟩ := hs.2.2 hlive
  rcases Nat.eq_zero_or_pos xs.length with h0 | h0
  · have hx : xs = [] := List.eq_nil_of_length_eq_zero h0
    subst hx
    refine ⟨[], a, sc, rfl, h2, by simp, fun w' _ => ?_, fun h => ?_, fun i j g hg => by simp at hg, fun x hx => by simp at hx, fun _ _ _ h => (h rfl).elim, fun _ _ _ _ _ h => (h rfl).elim, fun _ _ h => (h rfl).elim⟩
    · cases a with
      | none => rfl
      | some a => simp [Builtin.firstCells, loadCells, loadCellsFrom]
    · obtain ⟨b, base, cs, T, k1, k2, k3, k4⟩ := h4 h
      exact ⟨b, base, cs, T, k1, by simpa using k2, k3, by simpa using k4, fun p v hv => by simp at hv⟩
  · obtain rfl : bd = .grid e xs := by
      rcases hbd with h | ⟨_, rfl⟩
      · exact h
      · simp at h0
    obtain ⟨b, base, cs, T, k1, rfl, k3, k4⟩ := h4 (by omega)
    obtain ⟨b', base', cs', T', q1, q2, g3, g4, g5, g6, g7, g8⟩ := hr.ob _ _ _ ho
    rw [k1] at q1
    obtain ⟨rfl, rfl⟩ : b = b' ∧ base = base' := by simpa using q1
    rw [k3] at q2
    simp only [Option.some.injEq, Obj.cells.injEq, and_true] at q2
    obtain ⟨rfl, rfl⟩ := q2
    have hget : ∀ p, p < xs.length * e → ((cs.toList.drop base).take (xs.length * e))[p]? = cs[base + p]? := fun p hp => by
      rw [List.getElem?_take, if_pos hp, List.getElem?_drop, Array.getElem?_toList]
    have hlen : ((cs.toList.drop base).take (xs.length * e)).length = xs.length * e := by
      have hcl : cs.toList.length = cs.size := Array.length_toList
      rw [List.length_take, List.length_drop]; omega
    refine ⟨(cs.toList.drop base).take (xs.length * e), _, sc, rfl, h2, hlen, fun w' hw' => ?_, fun _ => ⟨b, base, cs, T, k1, by simp, k3, by simpa using k4, fun p v hv => ?_⟩, fun i j g hg => ?_, g4, fun p b' base' _ hp base2 h => ?_, fun p p' b' base' base'' _ => g7 p p' b' base' base'', fun p x _ => g8 p x⟩
    · have := run_loadCells_list (P := P) w' ⟨b, base, none⟩ ((cs.toList.drop base).take (xs.length * e)) (fun j z hz => by
        have hj : j < xs.length * e := by have := (List.getElem?_eq_some_iff.1 hz).1; omega
        rw [hget j hj] at hz
        rw [add_none, cell_of (by rw [hw']; exact k3)]
        exact hz)
      rw [hlen] at this
      simp [Builtin.firstCells, this]
    · have hp : p < xs.length * e := by have := (List.getElem?_eq_some_iff.1 hv).1; omega
      rw [hget p hp] at hv
      exact hv
    · obtain ⟨v, n1, n2⟩ := g5 i j g hg
      refine ⟨v, ?_, n2⟩
      obtain ⟨x, h5, h6⟩ := Option.bind_eq_some_iff.1 hg
      have h7 := g4 x (List.mem_of_getElem? h5)
      have h8 := (List.getElem?_eq_some_iff.1 h6).1
      have h9 := (List.getElem?_eq_some_iff.1 h5).1
      have h10 : (i + 1) * e ≤ xs.length * e := Nat.mul_le_mul_right _ h9
      rw [Nat.add_mul] at h10
      rw [hget _ (by omega)]
      exact n1
    · rw [k1] at h
      simp only [Option.some.injEq, Prod.mk.injEq] at h
      exact g6 p b' base' hp h.1.symm

theorem RelGC.one {c : Ctx} {w : World} {o p : Nat} {g : GC} {v : Value} (h : RelGC c w o p g v) : v.oneCell' = true := by
  cases g with
  | d x => exact Rep.one h
  | row e ys =>
    obtain ⟨a, cp, rfl, _⟩ := h
    rfl

theorem Outer.one {P : Program} {c : Ctx} {w : World} {o e : Nat} {xs : List (List GC)} {u : Value} {us : List Value} {a : Option Addr} {sc : Nat} (h : Outer P c w o e xs u us a sc) (he : 0 < e) : ∀ z ∈ us, z.oneCell' = true := by
  intro z hz
  obtain ⟨q, hq, rfl⟩ := List.mem_iff_getElem.1 hz
  have hq' : q < xs.length * e := by rw [← h.len]; exact hq
  have hi : q / e < xs.length := Nat.div_lt_of_lt_mul (by rw [Nat.mul_comm]; exact hq')
  have hj : q % e < (xs[q / e]).length := by rw [h.lens _ (List.getElem_mem hi)]; exact Nat.mod_lt _ he
  obtain ⟨v, m1, m2⟩ := h.rel (q / e) (q % e) (xs[q / e][q % e]) (by rw [List.getElem?_eq_getElem hi]; exact List.getElem?_eq_getElem hj)
  have e1 : q / e * e + q % e = q := by rw [Nat.mul_comm]; exact Nat.div_add_mod q e
  rw [e1, List.getElem?_eq_getElem hq] at m1
  rw [Option.some.inj m1]
  exact m2.one

/-- Rows that hold rows, put behind each other: the others' row is gone. -/
theorem run_append_grid {P : Program} {t t' te : TypeId} {E : TyI} (hu : P.underlying t = some (.slice te)) (hu' : (∃ e', P.underlying t' = some (.slice e'))) (hE : TyFacts P te E) (hpos : 0 < E.size) (ty : TypeId)
    {c : Ctx} {objs : Objs} {w : World} {o ver o' ver' : Nat} {cap cap' : Option Nat} {xs ys : List (List GC)} {bd bd2 : OB} {u v : Value} (hr : RelObjs c objs w)
    (ho : objs[o]? = some (ver, bd)) (hbd : isOuter E.size xs bd) (ho' : objs[o']? = some (ver', bd2)) (hbd2 : isOuter E.size ys bd2) (hne : o' ≠ o) (hy0 : 0 < ys.length)
    (hb : (xs.length + ys.length) * E.bytes ≤ 2 ^ 40) (hb2 : xs.length + ys.length ≤ 2 ^ 40)
    (hs : RelCV c objs w (.sl o ver E.size 0 xs.length cap) u) (hx : RelCV c objs w (.sl o' ver' E.size 0 ys.length cap') v) :
    ∃ r c' w', (Builtin.append_ #[t, t'] ty #[u, v]).run P w = .ok r w' ∧ Ext objs.length c objs w c' ((objs.set o (ver + 1, .grid E.size (xs ++ ys))).set o' (ver', .dead)) w' ∧
      RelObjs c' ((objs.set o (ver + 1, .grid E.size (xs ++ ys))).set o' (ver', .dead)) w' ∧ RelCV c' ((objs.set o (ver + 1, .grid E.size (xs ++ ys))).set o' (ver', .dead)) w' (.sl o (ver + 1) E.size 0 (xs.length + ys.length) none) r := by
  obtain ⟨us, a, sc, h1⟩ := outer_of (P := P) hr hpos ho hbd hs
  obtain ⟨vs, b, xc, h2⟩ := outer_of (P := P) hr hpos ho' hbd2 hx
  have hm : bd.mine = true := by rcases hbd with rfl | ⟨rfl, _⟩ <;> rfl
  have hm2 : bd2.mine = true := by rcases hbd2 with rfl | ⟨rfl, _⟩ <;> rfl
  have hlive : bd ≠ .dead := OB.mine_live hm
  have hlive2 : bd2 ≠ .dead := OB.mine_live hm2
  have hyne : ys ≠ [] := fun e => by subst e; simp at hy0
  have hsep : ∀ {k : Nat}, c.has o k → ¬ c.has o' k := fun g1 g2 => hne (hr.inj _ _ _ _ _ _ _ ho hm ho' hlive2 g1 g2).symm
  let n := xs.length * E.size
  let s : Nat → Option (Nat × Nat) := fun q => if q < n then (if xs = [] then none else c.ψ o q) else c.ψ o' (q - n)
  have hsψ : ∀ q k base, s q = some (k, base) → c.has o k ∨ c.has o' k := by
    intro q k base h
    by_cases hq : q < n
    · simp only [s, if_pos hq] at h
      by_cases hxe : xs = []
      · rw [if_pos hxe] at h; cases h
      · rw [if_neg hxe] at h
        exact .inl (.inr ⟨_, _, h⟩)
    · simp only [s, if_neg hq] at h
      exact .inr (.inr ⟨_, _, h⟩)
  -- what lies in the cells, and where
  have key : ∀ {w' : World} {p : Nat × Nat} {cs : Array Value} {T : TypeId},
      Ext objs.length c objs w (c.re o p s) ((objs.set o (ver + 1, .grid E.size (xs ++ ys))).set o' (ver', .dead)) w' → w'.heap[p.1]? = some (.cells cs T (0, 0)) →
      p.2 + (xs.length + ys.length) * E.size ≤ cs.size → (∀ (q : Nat) z, us[q]? = some z → cs[p.2 + q]? = some z) → (∀ (q : Nat) z, vs[q]? = some z → cs[p.2 + (n + q)]? = some z) →
      (∀ k base, c.ψ o k = some base → xs ≠ [] → base.1 ≠ p.1) → (∀ k base, c.ψ o' k = some base → base.1 ≠ p.1) → (∀ k : Nat, k < w.heap.size → k ≠ p.1 → w'.heap[k]? = w.heap[k]?) →
      RelOB (c.re o p s) ((objs.set o (ver + 1, .grid E.size (xs ++ ys))).set o' (ver', .dead)) w' o (.grid E.size (xs ++ ys)) := by
    intro w' p cs T hE' g1 g2 g3 g4 g5 g6 g7
    have hψs : ∀ q, (c.re o p s).ψ o q = s q := fun q => by simp [Ctx.re]
    have hlt : ∀ {zs : List (List GC)} {i j : Nat} {g : GC}, (∀ x ∈ zs, x.length = E.size) → (zs[i]?.bind (·[j]?)) = some g → i * E.size + j < zs.length * E.size := by
      intro zs i j g hz hg
      obtain ⟨x, k1, k2⟩ := Option.bind_eq_some_iff.1 hg
      have k3 := hz x (List.mem_of_getElem? k1)
      have k4 := (List.getElem?_eq_some_iff.1 k2).1
      have k5 : (i + 1) * E.size ≤ zs.length * E.size := Nat.mul_le_mul_right _ (List.getElem?_eq_some_iff.1 k1).1
      rw [Nat.add_mul] at k5
      omega
    refine ⟨p.1, p.2, cs, T, by simp [Ctx.re], g1, by rw [List.length_append]; exact g2, ?_, ?_, ?_, ?_, ?_⟩
    · intro x hx'
      rcases List.mem_append.1 hx' with hx' | hx'
      · exact h1.lens x hx'
      · exact h2.lens x hx'
    · intro i j g hg
      by_cases hi : i < xs.length
      · rw [List.getElem?_append_left hi] at hg
        obtain ⟨z, m1, m2⟩ := h1.rel i j g hg
        have hq := hlt h1.lens hg
        have hxe : xs ≠ [] := fun e => by subst e; simp at hi
        refine ⟨z, g3 _ _ m1, RelGC.move hE' hr (fun x hxψ => ?_) (fun k base hk => ?_) m2⟩
        · rw [hψs]
          simp only [s, n]
          rw [if_pos hq, if_neg hxe]
          exact hxψ
        · exact g7 k (hr.lsize _ _ _ k ho hlive (.inr ⟨_, _, hk⟩)) (g5 _ _ hk hxe)
      · rw [List.getElem?_append_right (by omega)] at hg
        obtain ⟨z, m1, m2⟩ := h2.rel _ j g hg
        have hq : i * E.size + j = n + ((i - xs.length) * E.size + j) := by
          have : (xs.length + (i - xs.length)) * E.size = i * E.size := by congr 1; omega
          rw [Nat.add_mul] at this
          simp only [n]
          omega
        rw [hq]
        refine ⟨z, g4 _ _ m1, RelGC.move hE' hr (fun x hxψ => ?_) (fun k base hk => ?_) m2⟩
        · rw [hψs]
          simp only [s]
          rw [if_neg (by omega), Nat.add_sub_cancel_left]
          exact hxψ
        · exact g7 k (hr.lsize _ _ _ k ho' hlive2 (.inr ⟨_, _, hk⟩)) (g6 _ _ hk)
    · intro q k base hk
      rw [hψs] at hk
      simp only [s] at hk
      split at hk
      · split at hk
        · cases hk
        · rename_i hxe
          exact g5 _ _ hk hxe
      · exact g6 _ _ hk
    · intro q q' k base base2 hk hk'
      rw [hψs] at hk hk'
      simp only [s] at hk hk'
      split at hk
      · split at hk
        · cases hk
        · rename_i hq hxe
          split at hk'
          · exact h1.inj _ _ _ _ _ hxe hk (by first | exact hk' | (rw [if_neg hxe] at hk'; exact hk'))
          · exact (hsep (.inr ⟨_, _, hk⟩) (.inr ⟨_, _, hk'⟩)).elim
      · split at hk'
        · split at hk'
          · cases hk'
          · exact (hsep (.inr ⟨_, _, hk'⟩) (.inr ⟨_, _, hk⟩)).elim
        · have := h2.inj _ _ _ _ _ hyne hk hk'
          omega
    · intro q x hk
      rw [hψs] at hk
      simp only [s] at hk
      split at hk
      · split at hk
        · cases hk
        · rename_i hq hxe
          obtain ⟨y, e', zs, m1, m2⟩ := h1.row _ _ hxe hk
          exact ⟨y, e', zs, by rw [List.getElem?_append_left (List.getElem?_eq_some_iff.1 m1).1]; exact m1, m2⟩
      · rename_i hq
        obtain ⟨y, e', zs, m1, m2⟩ := h2.row _ _ hyne hk
        have hq2 : q = (q - n) + E.size * xs.length := by simp only [n] at hq ⊢; rw [Nat.mul_comm E.size]; omega
        have hd : q / E.size = (q - n) / E.size + xs.length := by
          conv => lhs; rw [hq2]
          exact Nat.add_mul_div_left _ _ hpos
        have hmod : q % E.size = (q - n) % E.size := by
          conv => lhs; rw [hq2]
          exact Nat.add_mul_mod_self_left _ _ _
        refine ⟨y, e', zs, ?_, by rw [hmod]; exact m2⟩
        rw [hd, List.getElem?_append_right (Nat.le_add_left _ _), Nat.add_sub_cancel]
        exact m1
  have hus : us.length = n := h1.len
  have hvl := h2.len
  have hknown : Known ((objs.set o (ver + 1, OB.grid E.size (xs ++ ys))).set o' (ver', .dead)) o (ver + 1) := ⟨_, _, by rw [List.getElem?_set_ne hne, getElem?_set_self' ho], Nat.le_refl _⟩
  have h1v := h1.val
  have h2v := h2.val
  subst h1v h2v
  rcases run_append (P := P) hu hu' hE ty w h1.run h2.run hb hb2 with ⟨hfit, hrun⟩ | ⟨hno, cap2, rest, hcap, hrest, hrun⟩
  · -- there is room
    obtain ⟨bk, base, cs, T, k1, rfl, k3, k4, k5⟩ := h1.at_ (by omega)
    have hmul : (xs.length + ys.length) * E.size ≤ sc * E.size := Nat.mul_le_mul_right _ hfit
    rw [Nat.add_mul] at hmul
    have hfit2 : (base + xs.length * E.size) + vs.length ≤ cs.size := by rw [hvl]; omega
    have hadd : (Addr.mk bk base none).add (xs.length * E.size) = ⟨bk, base + xs.length * E.size, none⟩ := add_none _ _ _
    simp only [hadd, run_storeCells_put k3 vs hfit2 (h2.one hpos), Result.andThen_ok] at hrun
    have hrep := regrid_ok (w' := w.setRow bk (putRow' cs (base + xs.length * E.size) vs)) (bd' := .grid E.size (xs ++ ys)) (p := (bk, base)) (s := s) hr ho hm ho' hm2 hne rfl
      (by rw [setRow_size]; exact Nat.le_refl _) rfl rfl rfl (fun k hk hne => setRow_other w bk k _ (fun e => hne base (e ▸ k1)))
      (fun k ks U hk => by
        by_cases e : k = bk
        · subst e
          rw [k3] at hk
          simp only [Option.some.injEq, Obj.cells.injEq, and_true] at hk
          obtain ⟨rfl, rfl⟩ := hk
          exact ⟨_, setRow_heap w k cs _ T (0, 0) k3, size_putRow' hfit2⟩
        · exact ⟨ks, (setRow_other w bk k _ e).trans hk, rfl⟩)
      (.inl ⟨base, k1⟩) hsψ
      (fun hE' => key hE' (setRow_heap w bk cs _ T (0, 0) k3) (by rw [size_putRow' hfit2, Nat.add_mul]; omega)
        (fun q z hz => by
          have hq := (List.getElem?_eq_some_iff.1 hz).1
          rw [get_putRow' hfit2, if_neg (by simp only [n] at hus; omega)]
          exact k5 q z hz)
        (fun q z hz => by
          have hq := (List.getElem?_eq_some_iff.1 hz).1
          rw [get_putRow' hfit2, if_pos (by simp only [n]; omega), ← hz]
          congr 1
          simp only [n]; omega)
        (fun k x hk hxe e => h1.sep k x.1 x.2 hxe (by rw [hk]) base (by rw [e]; exact k1))
        (fun k x hk e => hsep (k := bk) (.inl ⟨_, k1⟩) (.inr ⟨k, x.2, by rw [hk]; exact congrArg some (Prod.ext e rfl)⟩))
        (fun k _ hne => setRow_other w bk k _ hne))
    refine ⟨_, _, _, hrun, hrep.1, hrep.2, rfl, hknown, fun _ => ⟨_, sc, rfl, by omega, by simp [capOk], fun _ => ⟨bk, base, _, T, by simp [Ctx.re], by simp, setRow_heap w bk cs _ T (0, 0) k3, ?_⟩⟩⟩
    rw [size_putRow' hfit2, Nat.zero_add]; exact k4
  · -- a new row
    have hsz0 : (us ++ vs ++ rest).toArray.size = cap2 * E.size := by
      simp only [List.size_toArray, List.length_append, hrest, hus, hvl, n]
      rw [← Nat.add_mul, ← Nat.add_mul]
      congr 1; omega
    have hrep := regrid_ok (w' := w.drew.alloc (.cells (us ++ vs ++ rest).toArray te)) (bd' := .grid E.size (xs ++ ys)) (p := (w.heap.size, 0)) (s := s) hr ho hm ho' hm2 hne rfl
      (by simp [heap_drew]) rfl rfl rfl (fun k hk _ => (heap_alloc_lt w.drew _ hk).trans (by rw [heap_drew]))
      (fun k ks U hk => ⟨ks, (heap_alloc_lt w.drew _ (Array.getElem?_eq_some_iff.1 hk).1).trans hk, rfl⟩)
      (.inr ⟨Nat.le_refl _, by simp [heap_drew]⟩) hsψ
      (fun hE' => key hE' (heap_alloc_new w.drew _) (by rw [hsz0, Nat.zero_add]; exact Nat.mul_le_mul_right _ hcap)
        (fun q z hz => by
          have hq := (List.getElem?_eq_some_iff.1 hz).1
          rw [Nat.zero_add, List.getElem?_toArray, List.append_assoc, List.getElem?_append_left hq, hz])
        (fun q z hz => by
          have hq := (List.getElem?_eq_some_iff.1 hz).1
          rw [Nat.zero_add, List.getElem?_toArray, List.append_assoc, List.getElem?_append_right (by omega), hus, Nat.add_sub_cancel_left, List.getElem?_append_left hq, hz])
        (fun k x hk _ e => by have := hr.lsize _ _ _ x.1 ho hlive (.inr ⟨k, x.2, hk⟩); simp only at e; omega)
        (fun k x hk e => by have := hr.lsize _ _ _ x.1 ho' hlive2 (.inr ⟨k, x.2, hk⟩); simp only at e; omega)
        (fun k hk _ => (heap_alloc_lt w.drew _ hk).trans (by rw [heap_drew])))
    exact ⟨_, _, _, hrun, hrep.1, hrep.2, rfl, hknown, fun _ => ⟨_, cap2, rfl, hcap, by simp [capOk], fun _ => ⟨w.heap.size, 0, _, te, by simp [Ctx.re], by simp, heap_alloc_new w.drew _, by rw [hsz0]; simp⟩⟩⟩

theorem gridOf_some {objs : Objs} {x : CV} {o ver e len : Nat} {ys : List (List GC)} (h : gridOf objs x = some (o, ver, e, len, ys)) : ∃ cap, x = .sl o ver e 0 len cap ∧ objAt objs o ver = some (.grid e ys) := by
  unfold gridOf at h
  split at h
  · rename_i o1 ver1 e1 off1 len1 cap
    split at h
    · rename_i e' zs hob
      split at h
      · rename_i b1 b2
        simp only [Option.some.injEq, Prod.mk.injEq] at h
        obtain ⟨rfl, rfl, rfl, rfl, rfl⟩ := h
        have e1' := Nat.eq_of_beq_eq_true b1
        have e2' := Nat.eq_of_beq_eq_true b2
        subst e1' e2'
        exact ⟨cap, rfl, hob⟩
      · cases h
    · cases h
  · cases h

theorem outerOf_some {objs : Objs} {o ver e : Nat} {xs : List (List GC)} (h : outerOf objs o ver = some (e, xs)) : ∃ bd, objAt objs o ver = some bd ∧ isOuter e xs bd := by
  unfold outerOf at h
  split at h
  · rename_i e' zs hob
    simp only [Option.some.injEq, Prod.mk.injEq] at h
    obtain ⟨rfl, rfl⟩ := h
    exact ⟨_, hob, .inl rfl⟩
  · rename_i e' hob
    simp only [Option.some.injEq, Prod.mk.injEq] at h
    obtain ⟨rfl, rfl⟩ := h
    exact ⟨_, hob, .inr ⟨rfl, rfl⟩⟩
  · cases h

theorem splitOwn_spec : ∀ {cs : List CV} {pre post : List DC} {o ver e len : Nat}, splitOwn cs = some (pre, (o, ver, e, len), post) → ∃ cap, cs.length = pre.length + (post.length + 1) ∧ cs[pre.length]? = some (.sl o ver e 0 len cap) ∧
    (∀ (i : Nat) d, pre[i]? = some d → ∃ x, cs[i]? = some x ∧ dcOf x = some d) ∧ ∀ (i : Nat) d, post[i]? = some d → ∃ x, cs[pre.length + 1 + i]? = some x ∧ dcOf x = some d
  | [], _, _, _, _, _, _, h => by simp [splitOwn] at h
  | x :: r, pre, post, o, ver, e, len, h => by
    have old : (match dcOf x, splitOwn r with
        | some d, some (a, q, b) => some (d :: a, q, b)
        | _, _ => none) = some (pre, (o, ver, e, len), post) → ∃ cap, (x :: r).length = pre.length + (post.length + 1) ∧ (x :: r)[pre.length]? = some (.sl o ver e 0 len cap) ∧
        (∀ (i : Nat) d, pre[i]? = some d → ∃ y, (x :: r)[i]? = some y ∧ dcOf y = some d) ∧ ∀ (i : Nat) d, post[i]? = some d → ∃ y, (x :: r)[pre.length + 1 + i]? = some y ∧ dcOf y = some d := by
      intro h
      split at h
      · rename_i d a q b hd hr
        simp only [Option.some.injEq, Prod.mk.injEq] at h
        obtain ⟨rfl, rfl, rfl⟩ := h
        obtain ⟨cap, h1, h2, h3, h4⟩ := splitOwn_spec hr
        refine ⟨cap, by simp [h1]; omega, by simpa using h2, fun i d' hi => ?_, fun i d' hi => ?_⟩
        · cases i with
          | zero =>
            simp only [List.getElem?_cons_zero, Option.some.injEq] at hi
            subst hi
            exact ⟨x, rfl, hd⟩
          | succ i =>
            rw [List.getElem?_cons_succ] at hi
            exact h3 i d' hi
        · obtain ⟨y, k1, k2⟩ := h4 i d' hi
          exact ⟨y, by rw [show (d :: a).length + 1 + i = (a.length + 1 + i) + 1 by simp; omega, List.getElem?_cons_succ]; exact k1, k2⟩
      · cases h
    cases x with
    | sl o1 ver1 e1 off1 len1 cap =>
      simp only [splitOwn] at h
      split at h
      · rename_i ds hb hds
        simp only [Option.some.injEq, Prod.mk.injEq] at h
        obtain ⟨rfl, ⟨rfl, rfl, rfl, rfl⟩, rfl⟩ := h
        obtain rfl := Nat.eq_of_beq_eq_true hb
        obtain ⟨d1, d2⟩ := dcsOf_spec hds
        refine ⟨cap, by simp [d1], rfl, fun i d hi => by simp at hi, fun i d hi => ?_⟩
        have hi2 := (List.getElem?_eq_some_iff.1 hi).1
        obtain ⟨d', k1, k2⟩ := d2 i r[i] (List.getElem?_eq_getElem (by omega))
        rw [k1] at hi
        obtain rfl := Option.some.inj hi
        exact ⟨r[i], by rw [show ([] : List DC).length + 1 + i = i + 1 by simp; omega, List.getElem?_cons_succ]; exact List.getElem?_eq_getElem (by omega), k2⟩
      · cases h
    | _ => exact old h

/-- A new row of one element that takes a row of the call's own. -/
theorem build_own {c : Ctx} {objs : Objs} {w : World} {o' ver' e e2 len' : Nat} {te : TypeId} {cs : List CV} {pre post : List DC} {ys : List (List DC)} {cells : Array Value} (hr : RelObjs c objs w)
    (ho' : objs[o']? = some (ver', .arr e2 ys)) (hlen : len' ≤ ys.length) (hsp : splitOwn cs = some (pre, (o', ver', e2, len'), post)) (he : pre.length + (post.length + 1) = e) (hv : RelCs c objs w cs cells.toList) :
    ∃ c', Ext objs.length c objs w c' ((objs.set o' (ver', .dead)) ++ [(1, .grid e [pre.map GC.d ++ GC.row e2 (ys.take len') :: post.map GC.d])]) (w.alloc (.cells cells te)) ∧
      RelObjs c' ((objs.set o' (ver', .dead)) ++ [(1, .grid e [pre.map GC.d ++ GC.row e2 (ys.take len') :: post.map GC.d])]) (w.alloc (.cells cells te)) ∧
      RelCV c' ((objs.set o' (ver', .dead)) ++ [(1, .grid e [pre.map GC.d ++ GC.row e2 (ys.take len') :: post.map GC.d])]) (w.alloc (.cells cells te)) (.sl objs.length 1 e 0 1 (some 1)) (.slice (some ⟨w.heap.size, 0, none⟩) 1 1) := by
  obtain ⟨cap, s1, s2, s3, s4⟩ := splitOwn_spec hsp
  have hlt' := (List.getElem?_eq_some_iff.1 ho').1
  have hsz : cells.size = e := by have := hv.1; simp at this; omega
  obtain ⟨hE1, hr1⟩ := ghost_ext hr 0 e
  obtain ⟨u0, m1, m2⟩ := hv.2 _ _ s2
  have hdead : (OB.arr e2 ys) ≠ .dead := by simp
  have ho1 : (objs ++ [(0, OB.arr e [])])[objs.length]? = some (0, OB.arr e []) := by simp
  have ho1' : (objs ++ [(0, OB.arr e [])])[o']? = some (ver', .arr e2 ys) := by rw [List.getElem?_append_left hlt']; exact ho'
  have hne : o' ≠ objs.length := by omega
  let g : List GC := pre.map GC.d ++ GC.row e2 (ys.take len') :: post.map GC.d
  let s : Nat → Option (Nat × Nat) := fun q => if q = pre.length then c.φ o' else none
  have hφ1 : (c.at objs.length none).φ o' = c.φ o' := (at_other hne).1
  have hset : ((objs ++ [(0, OB.arr e [])]).set objs.length (0 + 1, .grid e [g])).set o' (ver', .dead) = (objs.set o' (ver', .dead)) ++ [(1, .grid e [g])] := by
    rw [List.set_append_right _ _ (Nat.le_refl _), List.set_append_left _ _ hlt']
    simp
  have hrep := regrid_ok (w' := w.alloc (.cells cells te)) (bd' := .grid e [g]) (p := (w.heap.size, 0)) (s := s) hr1 ho1 rfl ho1' rfl hne rfl (by simp) rfl rfl rfl
    (fun k hk _ => heap_alloc_lt w _ hk) (fun k ks U hk => ⟨ks, (heap_alloc_lt w _ (Array.getElem?_eq_some_iff.1 hk).1).trans hk, rfl⟩) (.inr ⟨Nat.le_refl _, by simp⟩)
    (fun q b base h => by
      simp only [s] at h
      split at h
      · exact .inr (.inl ⟨base, by rw [hφ1]; exact h⟩)
      · cases h)
    (fun hE' => by
      have hψs : ∀ q, ((c.at objs.length none).re objs.length (w.heap.size, 0) s).ψ objs.length q = s q := fun q => by simp [Ctx.re]
      refine ⟨w.heap.size, 0, cells, te, by simp [Ctx.re], heap_alloc_new w _, by simp [hsz], fun x hx => ?_, fun i j y hy => ?_, fun q b' base' h => ?_, fun q q' b' base' base'' h h' => ?_, fun q x h => ?_⟩
      · obtain rfl := List.mem_singleton.1 hx
        simp only [g, List.length_append, List.length_map, List.length_cons]
        omega
      · obtain rfl : i = 0 := by
          cases i with
          | zero => rfl
          | succ i => simp at hy
        simp only [List.getElem?_cons_zero, Option.bind_some] at hy
        rw [Nat.zero_mul, Nat.zero_add, Nat.zero_add]
        simp only [g] at hy
        rcases Nat.lt_trichotomy j pre.length with hj | hj | hj
        · rw [List.getElem?_append_left (by simpa using hj), List.getElem?_map, Option.map_eq_some_iff] at hy
          obtain ⟨d, hd, rfl⟩ := hy
          obtain ⟨x, k1, k2⟩ := s3 j d hd
          obtain ⟨u, n1, n2⟩ := hv.2 _ _ k1
          exact ⟨u, by simpa using n1, hE'.rep hr1 (show Rep w (c.at objs.length none).R d u from rep_dcOf (c := c) (objs := objs) k2 n2)⟩
        · subst hj
          rw [List.getElem?_append_right (by simp), List.length_map, Nat.sub_self, List.getElem?_cons_zero] at hy
          obtain rfl := Option.some.inj hy
          refine ⟨u0, by simpa using m1, ?_⟩
          obtain ⟨_, _, hx⟩ := m2
          obtain ⟨a, cp, rfl, k2, _, k4⟩ := hx ⟨_, ho', hdead⟩
          refine ⟨a, cp, by simp; omega, by simp; omega, ?_, fun h0 => ?_⟩
          · intro y hy
            rcases hr.ob _ _ _ ho' with ⟨_, rfl⟩ | ⟨_, _, _, _, _, _, _, q4, _⟩
            · simp at hy
            · exact q4 y (List.mem_of_mem_take hy)
          · obtain ⟨b, base, ks, T, n1, rfl, n3, n4⟩ := k4 h0
            rcases hr.ob _ _ _ ho' with ⟨q1, _⟩ | ⟨b', base', ks', T', q1, q2, q3, q4, q5⟩
            · rw [q1] at n1; cases n1
            rw [n1] at q1
            obtain ⟨rfl, rfl⟩ : b = b' ∧ base = base' := by simpa using q1
            rw [n3] at q2
            simp only [Option.some.injEq, Obj.cells.injEq, and_true] at q2
            obtain ⟨rfl, rfl⟩ := q2
            refine ⟨b, base, ks, T, by rw [hψs]; simp only [s, if_pos]; exact n1, by simp, (heap_alloc_lt w _ (Array.getElem?_eq_some_iff.1 n3).1).trans n3, by simpa using n4, fun i2 j2 d hd => ?_⟩
            rw [List.getElem?_take] at hd
            split at hd
            · obtain ⟨u, n1, n2⟩ := q5 i2 j2 d hd
              exact ⟨u, n1, hE'.rep hr1 n2⟩
            · simp at hd
        · rw [List.getElem?_append_right (by simp; omega), List.length_map, show j - pre.length = (j - pre.length - 1) + 1 by omega, List.getElem?_cons_succ, List.getElem?_map, Option.map_eq_some_iff] at hy
          obtain ⟨d, hd, rfl⟩ := hy
          obtain ⟨x, k1, k2⟩ := s4 _ d hd
          obtain ⟨u, n1, n2⟩ := hv.2 _ _ k1
          rw [show pre.length + 1 + (j - pre.length - 1) = j by omega] at n1
          exact ⟨u, by simpa using n1, hE'.rep hr1 (show Rep w (c.at objs.length none).R d u from rep_dcOf (c := c) (objs := objs) k2 n2)⟩
      · rw [hψs] at h
        simp only [s] at h
        split at h
        · have := hr.lsize _ _ _ b' ho' hdead (.inl ⟨_, h⟩)
          omega
        · cases h
      · rw [hψs] at h h'
        simp only [s] at h h'
        split at h
        · split at h'
          · omega
          · cases h'
        · cases h
      · rw [hψs] at h
        simp only [s] at h
        split at h
        · rename_i hq
          subst hq
          refine ⟨g, e2, ys.take len', ?_, ?_⟩
          · rw [Nat.div_eq_of_lt (by omega)]; rfl
          · rw [Nat.mod_eq_of_lt (by omega)]
            simp only [g]
            rw [List.getElem?_append_right (by simp), List.length_map, Nat.sub_self, List.getElem?_cons_zero]
        · cases h)
  rw [hset] at hrep
  refine ⟨_, hE1.trans (hrep.1.lower (by simp)) (Nat.le_refl _), hrep.2, rfl, ⟨1, _, by rw [List.getElem?_append_right (by simp)]; simp; rfl, Nat.le_refl _⟩, fun _ => ⟨_, 1, rfl, Nat.le_refl _, by rintro c' ⟨rfl⟩; rfl, fun _ => ⟨w.heap.size, 0, cells, te, by simp [Ctx.re], by simp, heap_alloc_new w _, by simp [hsz]⟩⟩⟩

end Go.Proofs.Ytmfdkjjhdjkgpaa

namespace Go.Proofs.Ytmfdkjjhdjkgpaa
open Go Go.RowKit

theorem cells_of {c : Ctx} {objs : Objs} {w : World} {x : SV} {cs : List CV} {v : Value} (h : x.cells = some cs) (hx : RelSV c objs w x v) : RelCs c objs w cs v.cells.toList := by
  unfold SV.cells at h
  split at h
  · rename_i x
    obtain rfl := Option.some.inj h
    have h1 : RelCV c objs w x v := hx
    have hone := h1.one
    have hc : v.cells = #[v] := by cases v <;> first | rfl | cases hone
    rw [hc]
    refine ⟨rfl, fun i y hy => ?_⟩
    cases i with
    | zero => simp only [List.getElem?_cons_zero, Option.some.injEq] at hy; subst hy; exact ⟨v, rfl, h1⟩
    | succ i => simp at hy
  · rename_i xs
    obtain rfl := Option.some.inj h
    obtain ⟨vs, rfl, h1, h2⟩ := hx
    refine ⟨by simpa [Value.cells] using h1, fun i y hy => ?_⟩
    obtain ⟨u, k1, k2⟩ := h2 i y hy
    exact ⟨u, by simpa [Value.cells] using k1, k2⟩
  · cases h

theorem rel_agg {c : Ctx} {objs : Objs} {w : World} {xs : List CV} {us : Array Value} (h : RelCs c objs w xs us.toList) : RelV1 c objs w (.agg xs) (.agg us) :=
  ⟨us, rfl, by simpa using h.1, fun i x hx => by obtain ⟨u, k1, k2⟩ := h.2 i x hx; exact ⟨u, by simpa using k1, k2⟩⟩

theorem args_of {c : Ctx} {st : St} {a : Act} {w : World} (hr : Rel c st a w) : ∀ {xs : List Operand} {vs : List V1}, argsX st xs = some vs → xs.length = vs.length ∧ ∀ (i : Nat) x, vs[i]? = some x → ∃ u, (xs.map a.eval)[i]? = some u ∧ RelV1 c st.objs w x u
  | [], vs, h => by obtain rfl := Option.some.inj h; exact ⟨rfl, by simp⟩
  | x :: r, vs, h => by
    unfold argsX at h
    split at h
    · rename_i v vs' h1 h2
      obtain rfl := Option.some.inj h
      obtain ⟨k1, k2⟩ := args_of hr h2
      refine ⟨by simp [k1], fun i y hy => ?_⟩
      cases i with
      | zero =>
        simp only [List.getElem?_cons_zero, Option.some.injEq] at hy
        subst hy
        have := hr.eval x
        rw [h1] at this
        exact ⟨_, rfl, this⟩
      | succ i => simpa using k2 i y hy
    · cases h

theorem caps_of {c : Ctx} {st : St} {a : Act} {w : World} (hr : Rel c st a w) : ∀ {xs : List Operand} {vs : List (Nat × Nat × Nat)}, capsX st xs = some vs → xs.length = vs.length ∧ ∀ (i o ver off : Nat), vs[i]? = some (o, ver, off) → ∃ u, (xs.map a.eval)[i]? = some u ∧ PtrIs c st.objs o ver off u
  | [], vs, h => by obtain rfl := Option.some.inj h; exact ⟨rfl, by simp⟩
  | x :: r, vs, h => by
    unfold capsX at h
    split at h
    · rename_i o ver off vs' h1 h2
      obtain rfl := Option.some.inj h
      obtain ⟨k1, k2⟩ := caps_of hr h2
      refine ⟨by simp [k1], fun i o' ver' off' hy => ?_⟩
      cases i with
      | zero =>
        simp only [List.getElem?_cons_zero, Option.some.injEq, Prod.mk.injEq] at hy
        obtain ⟨rfl, rfl, rfl⟩ := hy
        have := hr.eval x
        rw [h1] at this
        exact ⟨_, rfl, this⟩
      | succ i => simpa using k2 i o' ver' off' hy
    · cases h

theorem parts_of {c : Ctx} {st : St} {a : Act} {w : World} (hr : Rel c st a w) : ∀ {xs : List (Nat × Operand)} {ps : List (Nat × List CV)}, partsX st xs = some ps → RelParts c st.objs w ps (xs.map fun (i, x) => (i, a.eval x))
  | [], ps, h => by obtain rfl := Option.some.inj h; exact trivial
  | (i, x) :: r, ps, h => by
    unfold partsX at h
    split at h
    · rename_i cs ps' h1 h2
      obtain rfl := Option.some.inj h
      exact ⟨rfl, cells_of h1 (hr.eval x), parts_of hr h2⟩
    · cases h

theorem intOf_eval {c : Ctx} {st : St} {a : Act} {w : World} (hr : Rel c st a w) {x : Operand} {n : Int} (h : intOfSV (st.eval x) = some n) : ∃ k, a.eval x = .int k n := by
  have hx := hr.eval x
  unfold intOfSV at h
  split at h
  · rename_i k m heq
    rw [heq] at hx
    obtain rfl := Option.some.inj h
    exact ⟨k, Rep.v_inv hx⟩
  · cases h

theorem optInt_of {c : Ctx} {st : St} {a : Act} {w : World} (hr : Rel c st a w) {x : Option Operand} {n : Option Int} (h : optInt st x = some n) : IntOpt n (x.map a.eval) := by
  cases x with
  | none => obtain rfl := Option.some.inj h; exact trivial
  | some x =>
    simp only [optInt, Option.map_eq_some_iff] at h
    obtain ⟨m, h1, rfl⟩ := h
    obtain ⟨k, h2⟩ := intOf_eval hr h1
    simp only [Option.map_some, h2]
    exact rfl

/-- What the walk of an operation leaves to be shown. -/
def Steps1 (c : Ctx) (objs : Objs) (w : World) (k : SV → Objs → Prop) (v : Value) (w' : World) : Prop :=
  ∃ c' objs' sv, Ext objs.length c objs w c' objs' w' ∧ RelObjs c' objs' w' ∧ RelSV c' objs' w' sv v ∧ k sv objs'

theorem Steps1.same {c : Ctx} {objs : Objs} {w : World} {k : SV → Objs → Prop} {v : Value} {sv : SV} (hr : RelObjs c objs w) (hv : RelSV c objs w sv v) (hk : k sv objs) : Steps1 c objs w k v w :=
  ⟨c, objs, sv, Ext.refl _ _ _ _, hr, hv, hk⟩

theorem one_of {c : Ctx} {st : St} {a : Act} {w : World} (hr : Rel c st a w) {x : Operand} {v : V1} (h : st.eval x = .one v) : RelV1 c st.objs w v (a.eval x) := by
  have := hr.eval x; rw [h] at this; exact this

theorem calls_enter {P : Program} {f : FuncId} {args : Array Value} {w : World} (h : enterable P f = true) : (callFunc f args).run P w = .ok (.enter f args) w := by
  unfold enterable at h
  split at h
  · rename_i fn hf
    simp only [Bool.and_eq_true, bne_iff_ne, ne_eq] at h
    obtain ⟨h1, h2⟩ := h
    obtain ⟨b, hb⟩ := Option.isSome_iff_exists.1 h1
    simp [callFunc, program, Sem.run, hf, h2, hb]
  · cases h

theorem builtinX_sound {G : Gen} {b : Builtin} {ts : Array TypeId} {ty : TypeId} {consts : Array Bool} {args : List V1} {vals : Array Value} {c : Ctx} {objs : Objs} {w : World} {k : SV → Objs → Prop}
    (hr : RelObjs c objs w) (h : builtinX G b ts.toList args objs k) (hl : vals.size = args.length) (hv : ∀ (i : Nat) x, args[i]? = some x → ∃ u, vals[i]? = some u ∧ RelV1 c objs w x u) :
    ∃ v w', (builtin b ts ty consts vals).run G.P w = .ok (.value v) w' ∧ Steps1 c objs w k v w' := by
  unfold builtinX at h
  split at h
  · rename_i t r x hts
    split at h
    · rename_i T hT
      obtain ⟨hT⟩ := tyX_facts (G.ok _ _ hT)
      obtain ⟨u, h1, h2⟩ := hv 0 _ rfl
      have hvals : vals = #[u] := by
        apply Array.ext_getElem?
        intro i
        cases i with
        | zero => exact h1
        | succ i => rw [Array.getElem?_eq_none (by simp [hl])]; simp
      have ht0 : ts[0]? = some t := by rw [← Array.getElem?_toList, hts]; rfl
      obtain ⟨v, z, k1, k2, k3⟩ := run_lenX (P := G.P) hT ts ht0 ty h h2
      refine ⟨v, w, ?_, .same hr (sv := .one (.c z)) k2 k3⟩
      simp [builtin, hvals, k1 w (SameOld.refl w)]
    · exact h.elim
  · rename_i t t' r s x hts
    split at h
    · rename_i T T' hT hT'
      obtain ⟨hT⟩ := tyX_facts (G.ok _ _ hT)
      obtain ⟨hT'⟩ := tyX_facts (G.ok _ _ hT')
      split at h
      · rename_i e e' hk hk'
        split at h
        · rename_i E hE
          obtain ⟨hE⟩ := tyX_facts (G.ok _ _ hE)
          replace h := chkP_iff.1 h; obtain ⟨hpos, h⟩ := h
          obtain ⟨u, h1, h2⟩ := hv 0 _ rfl
          obtain ⟨v, h3, h4⟩ := hv 1 _ rfl
          have hvals : vals = #[u, v] := by
            apply Array.ext_getElem?
            intro i
            match i with
            | 0 => exact h1
            | 1 => exact h3
            | i + 2 => rw [Array.getElem?_eq_none (by simp [hl])]; simp
          have hts' : ∃ tail, ts.toList = t :: t' :: tail := ⟨r, hts⟩
          have hu := und_of_kind_slice hT hk
          have hu' := und_of_kind_slice hT' hk'
          have ht0 : ts[0]? = some t := by rw [← Array.getElem?_toList, hts]; rfl
          have ht1 : ts[1]? = some t' := by rw [← Array.getElem?_toList, hts]; rfl
          have hconv : ∀ a b, Builtin.append_ ts ty #[a, b] = Builtin.append_ #[t, t'] ty #[a, b] := by
            intro a b
            unfold Builtin.append_
            simp [ht0, ht1]
          unfold appendX at h
          split at h
          · rename_i o' ver' e1 len' ys hg
            obtain ⟨cap', rfl, hob'⟩ := gridOf_some hg
            unfold appendG at h
            split at h
            · rename_i o ver e2 off len cap
              split at h
              · rename_i e3 xs ho
                obtain ⟨bd, hob, hbd⟩ := outerOf_some ho
                replace h := chkP_iff.1 h; obtain ⟨⟨hne, rfl, rfl, rfl, rfl⟩, rfl, hpl, rfl, hb, hb2, hk0⟩ := h
                obtain ⟨r, c', w', m1, m2, m3, m4⟩ := run_append_grid (P := G.P) hu ⟨_, hu'⟩ hE hpos ty hr (objAt_some hob) hbd (objAt_some hob') (.inl rfl) hne hpl hb hb2 h2 h4
                exact ⟨r, w', by simp [builtin, hvals, hconv, m1], c', _, .one (.c (.sl o (ver + 1) E.size 0 (xs.length + ys.length) none)), m2, m3, m4, hk0⟩
              · exact h.elim
            · exact h.elim
          · unfold appendO at h
            obtain ⟨hok, h⟩ := h
            split at h
            · rename_i ys hy
              have nilcase : ∀ (w0 : World) (a : Option Addr), u = .slice a 0 0 → ys.length * E.bytes ≤ 2 ^ 40 → ys.length ≤ 2 ^ 40 → k (.one (.c (.sl objs.length 1 E.size 0 ys.length none))) (objs ++ [(1, .arr E.size ys)]) →
                  ∃ v_1 w', (builtin .append ts ty consts vals).run G.P w = .ok (.value v_1) w' ∧ Steps1 c objs w k v_1 w' := by
                intro _ a hu0 hb hb2 hk0
                obtain ⟨hE1, hr1⟩ := ghost_ext hr 0 E.size
                have hx1 := hE1.relCV (Nat.le_refl _) hr h4
                have hob : (objs ++ [(0, OB.arr E.size [])])[objs.length]? = some (0, OB.arr E.size []) := by simp
                have hsl : RelCV (c.at objs.length none) (objs ++ [(0, .arr E.size [])]) w (.sl objs.length 0 E.size 0 0 none) u := by
                  subst hu0
                  exact ⟨rfl, ⟨_, _, hob, Nat.le_refl _⟩, fun _ => ⟨a, 0, rfl, Nat.le_refl _, by simp [capOk], fun h => by omega⟩⟩
                have hcont : ∀ {x : CV} {zs : List (List DC)}, contentX objs E.size x = some zs → RelCV c objs w x v → contentOK objs x → contentX (objs ++ [(0, .arr E.size [])]) E.size x = some zs ∧ contentOK (objs ++ [(0, .arr E.size [])]) x := by
                  intro x zs hz hx hxo
                  cases x with
                  | sl o ver e'' off len cap =>
                    have hlt := hx.2.1.lt
                    simp only [contentX, contentOK, objRd, objAt, List.getElem?_append_left hlt] at hz hxo ⊢
                    exact ⟨hz, hxo⟩
                  | d y => cases y <;> exact ⟨hz, hxo⟩
                  | _ => exact ⟨hz, hxo⟩
                obtain ⟨hy1, hok1⟩ := hcont hy h4 hok
                obtain ⟨r, c', w', m1, m2, m3, m4⟩ := run_append_sl (P := G.P) hu ⟨_, hu'⟩ hE hpos ty hr1 hob (by simp) hy1 hok1 (by simpa using hb) (by simpa using hb2) hsl hx1
                have hset : (objs ++ [(0, OB.arr E.size [])]).set objs.length (0 + 1, .arr E.size ((([] : List (List DC)).drop 0).take 0 ++ ys)) = objs ++ [(1, .arr E.size ys)] := by
                  rw [List.set_append_right _ _ (Nat.le_refl _)]; simp
                rw [hset] at m2 m3 m4
                refine ⟨r, w', by simp [builtin, hvals, hconv, m1], c', _, .one (.c (.sl objs.length 1 E.size 0 ys.length none)), hE1.trans (m2.lower (by simp)) (Nat.le_refl _), m3, ?_, hk0⟩
                have hz : (0 + ys.length) = ys.length := by omega
                rw [hz] at m4
                exact m4
              split at h
              · obtain ⟨hb, hb2, hk0⟩ := h
                exact nilcase w none h2 hb hb2 hk0
              · obtain ⟨a, ha⟩ := h2
                obtain ⟨hb, hb2, hk0⟩ := h
                exact nilcase w a ha hb hb2 hk0
              · rename_i o ver e'' off len cap
                split at h
                · rename_i cp hin
                  obtain rfl : cap = some cp := by
                    unfold inPlace at hin
                    split at hin
                    · split at hin
                      · exact hin
                      · cases hin
                    · cases hin
                  split at h
                  · rename_i e3 xs hob
                    replace h := chkP_iff.1 h; obtain ⟨rfl, h⟩ := h
                    replace h := chkP_iff.1 h; obtain ⟨he3, hol, hcp, hb, hb2, hk0⟩ := h
                    rw [he3] at hob
                    obtain ⟨r, w', m1, m2, m3, m4⟩ := run_append_in (P := G.P) hu ⟨_, hu'⟩ hE hpos ty hr (objAt_some hob) hol hcp hy hok hb hb2 h2 h4
                    exact ⟨r, w', by simp [builtin, hvals, hconv, m1], c, _, .one (.c (.sl o ver E.size off (len + ys.length) (some cp))), m2, m3, m4, hk0⟩
                  · exact h.elim
                · split at h
                  · rename_i e3 xs hob
                    replace h := chkP_iff.1 h; obtain ⟨rfl, h⟩ := h
                    replace h := chkP_iff.1 h; obtain ⟨he3, hol, hb, hb2, hk0⟩ := h
                    rw [he3] at hob
                    obtain ⟨r, c', w', m1, m2, m3, m4⟩ := run_append_sl (P := G.P) hu ⟨_, hu'⟩ hE hpos ty hr (objAt_some hob) hol hy hok hb hb2 h2 h4
                    exact ⟨r, w', by simp [builtin, hvals, hconv, m1], c', _, .one (.c (.sl o (ver + 1) E.size 0 (len + ys.length) none)), m2, m3, m4, hk0⟩
                  · exact h.elim
              · exact h.elim
            · exact h.elim
        · exact h.elim
      · exact h.elim
    · exact h.elim
  · rename_i t t' r s x hts
    split at h
    · rename_i T T' hT hT'
      obtain ⟨hT⟩ := tyX_facts (G.ok _ _ hT)
      obtain ⟨hT'⟩ := tyX_facts (G.ok _ _ hT')
      split at h
      · rename_i e e' hk hk'
        split at h
        · rename_i E hE
          obtain ⟨hE⟩ := tyX_facts (G.ok _ _ hE)
          replace h := chkP_iff.1 h; obtain ⟨hpos, h⟩ := h
          obtain ⟨u, h1, h2⟩ := hv 0 _ rfl
          obtain ⟨v, h3, h4⟩ := hv 1 _ rfl
          have hvals : vals = #[u, v] := by
            apply Array.ext_getElem?
            intro i
            match i with
            | 0 => exact h1
            | 1 => exact h3
            | i + 2 => rw [Array.getElem?_eq_none (by simp [hl])]; simp
          have hu := und_of_kind_slice hT hk
          have ht0 : ts[0]? = some t := by rw [← Array.getElem?_toList, hts]; rfl
          unfold copyX at h
          obtain ⟨hok, h⟩ := h
          split at h
          · rename_i ys hy
            split at h
            · rename_i o ver e'' off len cap
              split at h
              · rename_i e3 xs hob
                replace h := chkP_iff.1 h; obtain ⟨rfl, h⟩ := h
                replace h := chkP_iff.1 h; obtain ⟨he3, hol, hle, hk0⟩ := h
                rw [he3] at hob
                obtain ⟨w', m1, m2, m3⟩ := run_copy_sl (P := G.P) (t' := t') hu hE hpos ty hr (objAt_some hob) hol hy hok hle h2 h4
                have hconv : Builtin.copy_ ts ty #[u, v] = Builtin.copy_ #[t, t'] ty #[u, v] := by
                  unfold Builtin.copy_
                  simp [ht0]
                exact ⟨_, w', by simp [builtin, hvals, hconv, m1], c, _, .one (.c (vI ys.length)), m2, m3, relV (objs := objs.set o (ver, .arr E.size (spliceL xs ys off))) _ rfl, hk0⟩
              · exact h.elim
            · exact h.elim
          · exact h.elim
        · exact h.elim
      · exact h.elim
    · exact h.elim
  · rename_i t r x hts
    split at h
    · rename_i T hT
      obtain ⟨hT⟩ := tyX_facts (G.ok _ _ hT)
      split at h
      · rename_i e hk
        split at h
        · rename_i E hE
          obtain ⟨hE⟩ := tyX_facts (G.ok _ _ hE)
          replace h := chkP_iff.1 h; obtain ⟨hpos, h⟩ := h
          obtain ⟨u, h1, h2⟩ := hv 0 _ rfl
          have hvals : vals = #[u] := by
            apply Array.ext_getElem?
            intro i
            cases i with
            | zero => exact h1
            | succ i => rw [Array.getElem?_eq_none (by simp [hl])]; simp
          have hu := und_of_kind_slice hT hk
          have ht0 : ts[0]? = some t := by rw [← Array.getElem?_toList, hts]; rfl
          unfold clearX at h
          split at h
          · rename_i z o ver e'' off len cap hz
            split at h
            · rename_i e3 xs hob
              replace h := chkP_iff.1 h; obtain ⟨rfl, h⟩ := h
              replace h := chkP_iff.1 h; obtain ⟨he3, hol, hk0⟩ := h
              rw [he3] at hob
              obtain ⟨w', m1, m2, m3⟩ := run_clear_sl (P := G.P) hu hE hpos ty hr hz (objAt_some hob) hol h2
              have hconv : Builtin.clear_ ts ty #[u] = Builtin.clear_ #[t] ty #[u] := by
                unfold Builtin.clear_
                simp [ht0]
              exact ⟨.tuple #[], w', by simp [builtin, hvals, hconv, m1], c, _, .tup [], m2, m3, ⟨#[], rfl, rfl, fun i x h => by simp at h⟩, hk0⟩
            · exact h.elim
          · exact h.elim
        · exact h.elim
      · exact h.elim
    · exact h.elim
  · rename_i a b
    obtain ⟨u, h1, h2⟩ := hv 0 _ rfl
    obtain ⟨v, h3, h4⟩ := hv 1 _ rfl
    obtain rfl := Rep.v_inv h2
    obtain rfl := Rep.v_inv h4
    have hvals : vals.toList = [.int .i64 a, .int .i64 b] := by
      apply List.ext_getElem?
      intro i
      match i with
      | 0 => simpa using h1
      | 1 => simpa using h3
      | i + 2 => rw [List.getElem?_eq_none (by simp [hl])]; simp
    exact ⟨_, w, by simp [builtin, Builtin.min_, hvals, Builtin.min2], .same hr (sv := .one (.c (vI (if b < a then b else a)))) (relV (objs := objs) _ rfl) h⟩
  · rename_i a b
    obtain ⟨u, h1, h2⟩ := hv 0 _ rfl
    obtain ⟨v, h3, h4⟩ := hv 1 _ rfl
    obtain rfl := Rep.v_inv h2
    obtain rfl := Rep.v_inv h4
    have hvals : vals.toList = [.int .i64 a, .int .i64 b] := by
      apply List.ext_getElem?
      intro i
      match i with
      | 0 => simpa using h1
      | 1 => simpa using h3
      | i + 2 => rw [List.getElem?_eq_none (by simp [hl])]; simp
    exact ⟨_, w, by simp [builtin, Builtin.max_, hvals, Builtin.max2], .same hr (sv := .one (.c (vI (if b > a then b else a)))) (relV (objs := objs) _ rfl) h⟩
  · exact h.elim

end Go.Proofs.Ytmfdkjjhdjkgpaa

/- The executor is sound: operations, regions, code, calls. -/
import Derived.Test.YtbmaofepmheeeaaKt
namespace Go.Proofs.Ytbmaofepmheeeaa
open Go Go.RowKit

theorem isBoolX_und (G : Gen) (t : TypeId) (h : isBoolX G t = true) : G.P.underlying t = some .bool := by
  unfold isBoolX at h
  split at h
  · rename_i T hT
    obtain ⟨hT⟩ := tyX_facts (G.ok _ _ hT)
    split at h
    · rename_i hk; exact und_of_kind_bool hT hk
    · cases h
  · cases h

theorem isSliceX_und (G : Gen) (t : TypeId) (h : isSliceX G t = true) : ∃ e, G.P.underlying t = some (.slice e) := by
  unfold isSliceX at h
  split at h
  · rename_i T hT
    obtain ⟨hT⟩ := tyX_facts (G.ok _ _ hT)
    split at h
    · rename_i e hk; exact ⟨e, und_of_kind_slice hT hk⟩
    · cases h
  · cases h

theorem run_nil {P : Program} {t e : TypeId} (hu : P.underlying t = some (.slice e)) (a : Option Addr) (n cp : Nat) (w : World) : (Op.equal t (.slice a n cp) (.slice none 0 0)).run P w = .ok a.isNone w := by
  unfold Op.equal Op.maxDepth
  rw [show (10000 : Nat) = 9999 + 1 from rfl, Op.equalIn]
  cases a <;> simp [run_underlying hu]

theorem run_nilX {P : Program} {c : Ctx} {objs : Objs} {w : World} {op : BinOp} {t e : TypeId} {xo yo : Operand} {x : CV} {u v : Value} {K : CV → Prop}
    (hu : P.underlying t = some (.slice e)) (h : nilX objs op x K) (hx : RelCV c objs w x u) (hv : v = .slice none 0 0) :
    ∃ z r, (∀ w', (do eqGuard op t xo yo u v; binOp op t u v : Sem Value).run P w' = .ok r w') ∧ RelCV c objs w z r ∧ K z := by
  subst hv
  have form : ∀ (p : Prop) (a : Option Addr) (n cp : Nat), u = .slice a n cp → (a = none → p) → (op = .eql ∧ NilQ p (K (vB true)) (K (vB false)) ∨ op = .neq ∧ NilQ p (K (vB false)) (K (vB true))) →
      ∃ z r, (∀ w', (do eqGuard op t xo yo u (.slice none 0 0); binOp op t u (.slice none 0 0) : Sem Value).run P w' = .ok r w') ∧ RelCV c objs w z r ∧ K z := by
    rintro p a n cp rfl hp (⟨rfl, hq⟩ | ⟨rfl, hq⟩)
    · refine ⟨vB a.isNone, .bool a.isNone, fun w' => by simp [eqGuard, binOp, run_nil hu], relV _ rfl, ?_⟩
      cases a with
      | none => exact hq.nil (hp rfl)
      | some a => exact hq.no
    · refine ⟨vB !a.isNone, .bool !a.isNone, fun w' => by simp [eqGuard, binOp, run_nil hu], relV _ rfl, ?_⟩
      cases a with
      | none => exact hq.nil (hp rfl)
      | some a => exact hq.no
  have list : ∀ (e : Nat) (xs : List (List DC)), Rep w c.R (.list e xs) u → ∃ a cp, u = .slice a xs.length cp ∧ (a = none → xs = [] ∨ e = 0) := by
    intro e xs hx
    cases hx with
    | list _ _ a cap val hc hl hcell hrep =>
      refine ⟨a, cap, rfl, fun ha => ?_⟩
      by_cases h1 : xs = []
      · exact .inl h1
      · refine .inr ?_
        have hlen : 0 < xs.length := List.length_pos_iff.2 h1
        rcases Nat.eq_zero_or_pos e with h2 | h2
        · exact h2
        · obtain ⟨b, off, h3, _⟩ := hcell 0 0 hlen h2
          rw [ha] at h3; cases h3
  have own : ∀ (o ver e off len : Nat) (cap : Option Nat), RelCV c objs w (.sl o ver e off len cap) u → alive objs o ver → ∃ a cp, u = .slice a len cp ∧ (a = none → len = 0) := by
    intro o ver e off len cap hx hal
    obtain ⟨a, cp, h1, h2, h3, h4⟩ := hx.2.2 (alive_iff hal)
    refine ⟨a, cp, h1, fun ha => ?_⟩
    rcases Nat.eq_zero_or_pos cp with h5 | h5
    · omega
    · obtain ⟨b, base, cs, T, _, h6, _⟩ := h4 h5
      rw [ha] at h6; cases h6
  unfold nilX at h
  split at h
  · split at h
    · obtain rfl := hx
      exact ⟨vB true, .bool true, fun w' => by simp [eqGuard, binOp, run_nil hu], relV _ rfl, h⟩
    · obtain ⟨a, cp, h1, h2⟩ := list _ _ hx
      exact form _ a _ cp h1 h2 (.inl ⟨rfl, h⟩)
    · obtain ⟨hal, h⟩ := chkP_iff.1 h
      obtain ⟨a, cp, h1, h2⟩ := own _ _ _ _ _ _ hx hal
      exact form _ a _ cp h1 h2 (.inl ⟨rfl, h⟩)
    · exact h.elim
  · split at h
    · obtain rfl := hx
      exact ⟨vB false, .bool false, fun w' => by simp [eqGuard, binOp, run_nil hu], relV _ rfl, h⟩
    · obtain ⟨a, cp, h1, h2⟩ := list _ _ hx
      exact form _ a _ cp h1 h2 (.inr ⟨rfl, h⟩)
    · obtain ⟨hal, h⟩ := chkP_iff.1 h
      obtain ⟨a, cp, h1, h2⟩ := own _ _ _ _ _ _ hx hal
      exact form _ a _ cp h1 h2 (.inr ⟨rfl, h⟩)
    · exact h.elim
  · exact h.elim

theorem run_buildSlice' {P : Program} {t e : TypeId} {E : TyI} (hu : P.underlying t = some (.slice e)) (hE : TyFacts P e E) {w : World} {len : Nat} {parts : Array (Nat × Value)} {cells : Array Value} (hs : len * E.size ≤ 1000000)
    (h : Instr.fill (fun i => some (i * E.size, E.size)) ((Array.range (len * E.size)).map (hE.z.cells[· % hE.z.cells.size]!)) parts.toList = some cells) :
    (Instr.buildSlice t len parts).run P w = .ok (.slice (some ⟨w.heap.size, 0, none⟩) len len) (w.alloc (.cells cells e)) := by
  have hsz : E.size = hE.i.size := hE.size
  by_cases h0 : len * E.size = 0
  · have h1 : ((Array.range (len * E.size)).map (hE.z.cells[· % hE.z.cells.size]!)) = #[] := by
      rw [h0]; apply Array.ext'; simp
    have h2 : ((Array.range (len * E.size)).map ((#[] : Array Value)[· % (#[] : Array Value).size]!)) = #[] := by
      rw [h0]; apply Array.ext'; simp
    rw [h1] at h
    unfold Instr.buildSlice
    simp only [Sem.run_bind, run_underlying hu, Result.andThen_ok, hE.run_sizeOf]
    rw [if_neg (by omega), if_pos h0]
    simp only [Sem.run_bind, Sem.run_pure, Result.andThen_ok, h2, h, newRow, newObj, Sem.run]
    rfl
  · exact run_buildSlice (P := P) w t e len parts cells hE.i hE.z hu hE.info hE.zero (by rw [← hsz]; omega) (by rw [← hsz]; exact h0) (by rw [← hsz]; exact h)

theorem opX_sound {G : Gen} {o : Oper} {st : St} {c : Ctx} {a : Act} {w : World} {k : SV → Objs → Prop} {next : Act → World → Prop} {Q : Exit → Act → World → Prop}
    (h : opX G o st k) (hr : Rel c st a w) (hk : ∀ v w', Steps1 c st.objs w k v w' → next (a.put o.dst v) w') : o.wp G.P a w next Q := by
  have fin : ∀ {v w'}, (execOp a.eval o).run G.P w = .ok (.value v) w' → Steps1 c st.objs w k v w' → o.wp G.P a w next Q := fun h1 h2 => wp_value h1 (hk _ _ h2)
  have fin2 : ∀ {v z : _}, (execOp a.eval o).run G.P w = .ok (.value v) w → RelCV c st.objs w z v → k (.one (.c z)) st.objs → o.wp G.P a w next Q :=
    fun h1 h2 h3 => fin h1 (.same hr.objs (sv := .one (.c _)) h2 h3)
  unfold opX at h
  split at h
  · rename_i x ho
    exact fin (by simp [execOp, ho]) (.same hr.objs (hr.eval x) h)
  · rename_i x ho
    exact fin (by simp [execOp, ho]) (.same hr.objs (hr.eval x) h)
  · rename_i cc x y ho
    split at h
    · rename_i t hc
      have hcv := Rep.v_inv (one_of hr hc)
      cases t with
      | true => exact fin (by simp [execOp, ho, hcv, asBool]) (.same hr.objs (hr.eval x) (Br.yes h rfl))
      | false => exact fin (by simp [execOp, ho, hcv, asBool]) (.same hr.objs (hr.eval y) (Br.no h rfl))
    · exact h.elim
  · rename_i t ho
    split at h
    · rename_i T hT
      obtain ⟨hT⟩ := tyX_facts (G.ok _ _ hT)
      obtain ⟨c', w', h1, h2, h3, h4⟩ := run_alloc (P := G.P) hT hr.objs
      exact fin (by simp only [execOp, ho, Sem.run_bind, h1, Result.andThen_ok, Sem.run_pure]) ⟨c', _, .one (.c (.ptr st.objs.length 0 0)), h2, h3, h4, h⟩
    · exact h.elim
  · rename_i t x ho
    split at h
    · rename_i cs hcs
      obtain ⟨c', w', h1, h2, h3, h4⟩ := run_box (P := G.P) (t := t) hr.objs (cells_of hcs (hr.eval x))
      exact fin (by simp only [execOp, ho, Sem.run_bind, h1, Result.andThen_ok, Sem.run_pure]) ⟨c', _, .one (.c (.ptr st.objs.length 0 0)), h2, h3, h4, h⟩
    · exact h.elim
  · rename_i t parts ho
    split at h
    · rename_i T ps hT hps
      obtain ⟨hT⟩ := tyX_facts (G.ok _ _ hT)
      split at h
      · rename_i fs hk'
        split at h
        · rename_i cs hcs
          obtain ⟨cells, h1, h2⟩ := run_buildX (P := G.P) hT hk' (parts := parts.map fun (i, x) => (i, a.eval x)) hcs (by simpa using parts_of hr hps)
          exact fin (by simp only [execOp, ho, Sem.run_bind, h1, Result.andThen_ok, Sem.run_pure]) (.same hr.objs (sv := .one (.agg cs)) (rel_agg h2) h)
        · exact h.elim
      · rename_i n e hk'
        split at h
        · rename_i E hE hpl
          obtain ⟨hE⟩ := tyX_facts (G.ok _ _ hE)
          obtain ⟨h1, h2⟩ := run_build_arr (P := G.P) hT hk' hE (c := c) (objs := st.objs) (w := w) (parts := parts.map fun (i, x) => (i, a.eval x)) (by simpa using hpl)
          exact fin (by simp only [execOp, ho, Sem.run_bind, h1, Result.andThen_ok, Sem.run_pure]) (.same hr.objs (sv := .one (.agg T.zero)) (rel_agg h2) h)
        · exact h.elim
      · exact h.elim
    · exact h.elim
  · rename_i t len parts ho
    split at h
    · rename_i T ps hT hps
      obtain ⟨hT⟩ := tyX_facts (G.ok _ _ hT)
      split at h
      · rename_i e hk'
        split at h
        · rename_i E hE
          obtain ⟨hE⟩ := tyX_facts (G.ok _ _ hE)
          split at h
          · rename_i z hz
            split at h
            · rename_i xs hxs
              replace h := chkP_iff.1 h; obtain ⟨hpos, h⟩ := h
              replace h := chkP_iff.1 h; obtain ⟨hsm, h⟩ := h
              have hzr := zero_row hE (c := c) (w := w) hz len
              obtain ⟨cells, h1, h2, h3⟩ := run_fill_slice (w := w) ps (parts.map fun (i, x) => (i, a.eval x)).toList _ _ _ hxs (by simpa using parts_of hr hps) hzr
              rw [List.length_replicate] at h3
              have hsz : E.size = hE.i.size := hE.size
              have hb := run_buildSlice' (P := G.P) (und_of_kind_slice hT hk') hE (w := w) (len := len) (parts := parts.map fun (i, x) => (i, a.eval x)) (cells := cells) (by omega) h1
              obtain ⟨c', k1, k2, k3⟩ := new_row (T := e) hr.objs h2 h3 (Nat.le_refl len)
              exact fin (by simp only [execOp, ho, Sem.run_bind, hb, Result.andThen_ok, Sem.run_pure]) ⟨c', _, .one (.c (.sl st.objs.length 0 E.size 0 len (some len))), k1, k2, k3, h⟩
            · exact h.elim
          · exact h.elim
        · exact h.elim
      · exact h.elim
    · exact h.elim
  · rename_i t l cp ho
    split at h
    · rename_i T l' cp' hT hl hcp
      obtain ⟨hT⟩ := tyX_facts (G.ok _ _ hT)
      split at h
      · rename_i e hk'
        split at h
        · rename_i E hE
          obtain ⟨hE⟩ := tyX_facts (G.ok _ _ hE)
          split at h
          · rename_i z hz
            replace h := chkP_iff.1 h; obtain ⟨hpos, h0, h1, h2, h3, h⟩ := h
            obtain ⟨k1, e1⟩ := intOf_eval hr hl
            obtain ⟨k2, e2⟩ := intOf_eval hr hcp
            have hrun := run_makeSlice' (P := G.P) (und_of_kind_slice hT hk') hE hpos (w := w) (k := k1) (k' := k2) h0 h1 h2 h3
            have plain : k (.one (.c (.sl st.objs.length 0 E.size 0 l'.toNat (some cp'.toNat)))) (st.objs ++ [(0, .arr E.size (List.replicate cp'.toNat z))]) → o.wp G.P a w next Q := fun h => by
              obtain ⟨c', m1, m2, m3⟩ := new_row (T := e) hr.objs (zero_row hE (c := c) (w := w) hz cp'.toNat) (by simp) (show l'.toNat ≤ cp'.toNat by omega)
              exact fin (by simp only [execOp, ho, e1, e2, Sem.run_bind, hrun, Result.andThen_ok, Sem.run_pure]) ⟨c', _, .one (.c (.sl st.objs.length 0 E.size 0 l'.toNat (some cp'.toNat))), m1, m2, m3, h⟩
            split at h
            · rcases h with h | h
              · obtain ⟨c', m1, m2, m3⟩ := new_grid (T := e) hr.objs (zero_row hE (c := c) (w := w) hz cp'.toNat) (by simp) (show l'.toNat ≤ cp'.toNat by omega)
                rw [List.map_replicate] at m1 m2 m3
                exact fin (by simp only [execOp, ho, e1, e2, Sem.run_bind, hrun, Result.andThen_ok, Sem.run_pure]) ⟨c', _, .one (.c (.sl st.objs.length 0 E.size 0 l'.toNat (some cp'.toNat))), m1, m2, m3, h⟩
              · exact plain h
            · exact plain h
          · exact h.elim
        · exact h.elim
      · exact h.elim
    · exact h.elim
  · rename_i t x ho
    split at h
    · rename_i T y hT hx
      obtain ⟨hT⟩ := tyX_facts (G.ok _ _ hT)
      obtain ⟨v, z, h1, h2, h3⟩ := run_loadX (P := G.P) hT hr.objs h (one_of hr hx)
      replace h1 := h1 w (SameOld.refl w)
      exact fin (by simp only [execOp, ho, Sem.run_bind, h1, Result.andThen_ok, Sem.run_pure]) (.same hr.objs (sv := .one z) h2 h3)
    · exact h.elim
  · rename_i t x y ho
    split at h
    · rename_i T p cs hT hx hcs
      obtain ⟨hT⟩ := tyX_facts (G.ok _ _ hT)
      obtain ⟨c', w', objs', h1, h2, h3, h4⟩ := run_storeX (P := G.P) hT hr.objs h (one_of hr hx) (cells_of hcs (hr.eval y))
      exact wp_skipped (by simp only [execOp, ho, Sem.run_bind, h1, Result.andThen_ok, Sem.run_pure]) (hk _ _ ⟨c', objs', .un, h2, h3, trivial, h4⟩)
    · exact h.elim
  · rename_i op t x y yt ho
    split at h
    · rename_i p hx hy
      obtain ⟨hsl, h⟩ := chkP_iff.1 h
      obtain ⟨e, hu⟩ := isSliceX_und G t hsl
      obtain ⟨z, r, h1, h2, h3⟩ := run_nilX (P := G.P) (t := t) (xo := x) (yo := y) hu h (one_of hr hx) (show _ = _ from one_of hr hy)
      replace h1 := h1 w
      exact fin2 (by simp only [execOp, ho]; rw [Sem.run_bind, h1]; rfl) h2 h3
    · rename_i p q hx hy
      obtain ⟨z, r, h1, h2, h3⟩ := run_binX (P := G.P) (t := t) (xo := x) (yo := y) (isBoolX_und G t) h (one_of hr hx) (one_of hr hy)
      replace h1 := h1 w
      exact fin2 (by simp only [execOp, ho]; rw [Sem.run_bind, h1]; rfl) h2 h3
    · exact h.elim
  · rename_i op t x ho
    split at h
    · rename_i p hx
      obtain ⟨z, r, h1, h2, h3⟩ := run_unX (P := G.P) h (one_of hr hx)
      replace h1 := h1 w
      exact fin2 (by simp only [execOp, ho, Sem.run_bind, h1, Result.andThen_ok, Sem.run_pure]) h2 h3
    · exact h.elim
  · rename_i t x f ho
    split at h
    · rename_i T p hT hx
      obtain ⟨hT⟩ := tyX_facts (G.ok _ _ hT)
      obtain ⟨v, z, h1, h2, h3⟩ := run_fieldX (P := G.P) hT h (one_of hr hx)
      replace h1 := h1 w (SameOld.refl w)
      exact fin2 (by simp only [execOp, ho, Sem.run_bind, h1, Result.andThen_ok, Sem.run_pure]) h2 h3
    · exact h.elim
  · rename_i t x i ho
    split at h
    · rename_i T p j hT hx hi
      obtain ⟨hT⟩ := tyX_facts (G.ok _ _ hT)
      split at h
      · rename_i e hk'
        split at h
        · rename_i E hE
          obtain ⟨hE⟩ := tyX_facts (G.ok _ _ hE)
          obtain ⟨r, z, h1, h2, h3⟩ := run_indexX (P := G.P) hT hk' hE (chkP_iff.1 h).2 (chkP_iff.1 h).1 (one_of hr hx) (one_of hr hi)
          replace h1 := h1 w (SameOld.refl w)
          exact fin2 (by simp only [execOp, ho, Sem.run_bind, h1, Result.andThen_ok, Sem.run_pure]) h2 h3
        · exact h.elim
      · rename_i n e hk'
        split at h
        · rename_i E hE
          obtain ⟨hE⟩ := tyX_facts (G.ok _ _ hE)
          obtain ⟨r, z, h1, h2, h3⟩ := run_indexX_array (P := G.P) hT hk' hE h (one_of hr hx) (one_of hr hi)
          replace h1 := h1 w (SameOld.refl w)
          exact fin2 (by simp only [execOp, ho, Sem.run_bind, h1, Result.andThen_ok, Sem.run_pure]) h2 h3
        · exact h.elim
      · exact h.elim
    · exact h.elim
  · rename_i t x f ho
    split at h
    · rename_i cs off T hx hoff
      obtain ⟨fields, fd, hu, hf, rfl, ⟨hT⟩⟩ := fieldAt_facts hoff
      obtain ⟨vs, e1, e2, e3⟩ := one_of hr hx
      unfold takeX at h
      split at h
      · rename_i hg
        rw [chkP_iff] at h
        obtain ⟨hlen, h⟩ := h
        have hrun := run_field_agg hu hf hT hg (vs := vs) w
        refine fin (v := .agg (vs.extract fd.offset (fd.offset + T.size))) (by simp only [execOp, ho, e1, Sem.run_bind, hrun, Result.andThen_ok, Sem.run_pure]) (.same hr.objs (sv := .one (.agg _)) ⟨_, rfl, ?_, fun i y hy => ?_⟩ h)
        · simp [e2]; omega
        · rw [List.getElem?_take] at hy
          split at hy
          · rename_i hi
            rw [List.getElem?_drop] at hy
            obtain ⟨u, g1, g2⟩ := e3 _ _ hy
            refine ⟨u, ?_, g2⟩
            have := (Array.getElem?_eq_some_iff.1 g1)
            rw [Array.getElem?_extract, if_pos (by omega)]
            exact g1
          · cases hy
      · rename_i hg
        split at h
        · rename_i y hy
          obtain ⟨u, g1, g2⟩ := e3 _ _ hy
          have hrun := run_field_one hu hf hT (by simpa using hg) g1 w
          exact fin2 (by simp only [execOp, ho, e1, Sem.run_bind, hrun, Result.andThen_ok, Sem.run_pure]) g2 h
        · exact h.elim
    · exact h.elim
  · rename_i t x i ho
    split at h
    · rename_i T cs n hT hx hi
      obtain ⟨hT⟩ := tyX_facts (G.ok _ _ hT)
      split at h
      · rename_i len e hk'
        split at h
        · rename_i E hE
          obtain ⟨hE⟩ := tyX_facts (G.ok _ _ hE)
          split at h
          · rename_i ik hek
            replace h := chkP_iff.1 h
            obtain ⟨hs, h0, h1, h⟩ := h
            rw [fNat_eq] at h
            split at h
            · rename_i y hy
              obtain ⟨vs, e1, _, e3⟩ := one_of hr hx
              obtain ⟨u, g1, g2⟩ := e3 _ _ hy
              have e4 := Rep.v_inv (one_of hr hi)
              have hrun := run_index_arr (und_of_kind_array hT hk') hE hek hs h0 h1 g1 w
              exact fin2 (by simp only [execOp, ho, e1, e4, Sem.run_bind, hrun, Result.andThen_ok, Sem.run_pure]) g2 h
            · exact h.elim
          · exact h.elim
        · exact h.elim
      · exact h.elim
    · exact h.elim
  · rename_i t x lo hi mx ho
    split at h
    · rename_i T p lo' hi' mx' hT hx hlo hhi hmx
      obtain ⟨hT⟩ := tyX_facts (G.ok _ _ hT)
      split at h
      · rename_i e hk'
        split at h
        · rename_i E hE
          obtain ⟨hE⟩ := tyX_facts (G.ok _ _ hE)
          obtain ⟨r, z, h1, h2, h3⟩ := run_sliceX (P := G.P) (und_of_kind_slice hT hk') hE (optInt_of hr hlo) (optInt_of hr hhi) (optInt_of hr hmx) (chkP_iff.1 h).2 (one_of hr hx)
          replace h1 := h1 w
          exact fin2 (by simp only [execOp, ho, Sem.run_bind, h1, Result.andThen_ok, Sem.run_pure]) h2 h3
        · exact h.elim
      · rename_i hk'
        obtain ⟨r, z, h1, h2, h3⟩ := run_strSliceX (P := G.P) (und_of_kind_str hT hk') (optInt_of hr hlo) (optInt_of hr hhi) (optInt_of hr hmx) h (one_of hr hx)
        replace h1 := h1 w
        exact fin2 (by simp only [execOp, ho, Sem.run_bind, h1, Result.andThen_ok, Sem.run_pure]) h2 h3
      · rename_i n e hk'
        split at h
        · rename_i E hE
          obtain ⟨hE⟩ := tyX_facts (G.ok _ _ hE)
          obtain ⟨r, z, h1, h2, h3⟩ := run_sliceArrX (P := G.P) (und_of_kind_array hT hk') hE (optInt_of hr hlo) (optInt_of hr hhi) (optInt_of hr hmx) hr.objs h (one_of hr hx)
          replace h1 := h1 w
          exact fin2 (by simp only [execOp, ho, Sem.run_bind, h1, Result.andThen_ok, Sem.run_pure]) h2 h3
        · exact h.elim
      · exact h.elim
    · exact h.elim
  · rename_i t i ho
    split at h
    · rename_i vs ht
      split at h
      · rename_i v hv
        have h1 := hr.eval t
        rw [ht] at h1
        obtain ⟨us, e1, e2, e3⟩ := h1
        obtain ⟨u, g1, g2⟩ := e3 _ _ hv
        exact fin (by simp only [execOp, ho, e1, Instr.extract, g1, Sem.run_bind, Result.andThen_ok, Sem.run_pure]) (.same hr.objs (sv := .one v) g2 h)
      · exact h.elim
    · exact h.elim
  · rename_i t ho
    split at h
    · rename_i n E hm
      obtain ⟨c', w', h1, h2, h3, h4⟩ := run_makeMap (P := G.P) (t := t) hr.objs n
      exact fin (by simp only [execOp, ho, Option.map_none, Sem.run_bind, h1, Result.andThen_ok, Sem.run_pure]) ⟨c', _, .one (.c (.mp st.objs.length 0)), h2, h3, h4, h⟩
    · exact h.elim
  · rename_i t x ix ok ho
    split at h
    · rename_i n E y z hm hx hi
      obtain ⟨M⟩ := mapTy_facts hm
      obtain ⟨r, sv, h1, h2, h3⟩ := run_lookupX (P := G.P) M hr.objs h (one_of hr hx) (one_of hr hi)
      exact fin (by simp only [execOp, ho, Sem.run_bind, h1, Result.andThen_ok, Sem.run_pure]) (.same hr.objs h2 h3)
    · exact h.elim
  · rename_i t x ix y ho
    split at h
    · rename_i n E p q v hm hx hi hy
      obtain ⟨M⟩ := mapTy_facts hm
      obtain ⟨c', w', objs', h1, h2, h3, h4⟩ := run_updX (P := G.P) M hr.objs h (one_of hr hx) (one_of hr hi) (one_of hr hy)
      exact wp_skipped (by simp only [execOp, ho, Sem.run_bind, h1, Result.andThen_ok, Sem.run_pure]) (hk _ _ ⟨c', objs', .un, h2, h3, trivial, h4⟩)
    · exact h.elim
  · rename_i f fst caps ho
    split at h
    · rename_i cs hcs
      replace h := chkP_iff.1 h; obtain ⟨hf0, h⟩ := h
      obtain ⟨k1, k2⟩ := caps_of hr hcs
      have hfst : fst = #[] := Array.eq_empty_of_size_eq_zero hf0
      refine fin2 (z := .fn f cs) (by simp [execOp, ho, Instr.makeFunc, hfst]) ⟨caps.map a.eval, rfl, by simp; simpa using k1, fun i o ver off hi => ?_⟩ h
      obtain ⟨u, m1, m2⟩ := k2 i o ver off hi
      exact ⟨u, by simpa using m1, m2⟩
    · exact h.elim
  · rename_i cl ho
    unfold callOpX at h
    split at h
    · rename_i args hargs
      obtain ⟨a1, a2⟩ := args_of hr hargs
      have hsz : (cl.args.map a.eval).size = args.length := by simp; simpa using a1
      have hval : ∀ (i : Nat) x, args[i]? = some x → ∃ u, (cl.args.map a.eval)[i]? = some u ∧ RelV1 c st.objs w x u := by
        intro i x hx
        obtain ⟨u, m1, m2⟩ := a2 i x hx
        exact ⟨u, by simpa using m1, m2⟩
      split at h
      · rename_i b hb
        obtain ⟨v, w', h1, h2⟩ := builtinX_sound (G := G) (ty := o.type) (consts := cl.args.map fun | .const _ => true | _ => false) hr.objs h hsz hval
        exact fin (by simp only [execOp, ho, resolve, hb, Sem.run_bind, Sem.run_pure, Result.andThen_ok, invoke]; exact h1) h2
      · rename_i fo hcal
        split at h
        · rename_i f caps hf
          obtain ⟨vs, e1, e2, e3⟩ := one_of hr hf
          obtain ⟨hent, hcall⟩ := h
          have hc := hcall c w ((cl.args.map a.eval) ++ vs) hr.objs (by simp [e2]; simpa using hsz) (by
            intro i x hx
            by_cases hi : i < args.length
            · rw [List.getElem?_append_left hi] at hx
              rw [Array.getElem?_append_left (by omega)]
              exact hval i x hx
            · rw [List.getElem?_append_right (by omega)] at hx
              rw [Array.getElem?_append_right (by omega), hsz]
              simp only [List.getElem?_map, Option.map_eq_some_iff] at hx
              obtain ⟨⟨o', ver, off⟩, hx1, rfl⟩ := hx
              obtain ⟨u, m1, m2⟩ := e3 _ _ _ _ hx1
              exact ⟨u, m1, m2⟩)
          have hrun : (execOp a.eval o).run G.P w = .ok (.enter f ((cl.args.map a.eval) ++ vs)) w := by
            simp only [execOp, ho, resolve, hcal, e1, Deferred.ofValue, Sem.run_bind, Sem.run_pure, Result.andThen_ok, invoke]
            have := calls_enter (P := G.P) (args := (cl.args.map a.eval) ++ vs) (w := w) hent
            simpa using this
          unfold Oper.wp
          rw [hrun]
          refine hc.mono ?_
          rintro e w' ⟨v, c', objs', sv, rfl, k1, k2, k3, k4⟩
          exact hk v w' ⟨c', objs', sv, k1, k2, k3, k4⟩
        · exact h.elim
      · exact h.elim
    · exact h.elim
  · exact h.elim

end Go.Proofs.Ytbmaofepmheeeaa

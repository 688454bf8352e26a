/- The executor is sound: maps. -/
import Derived.Test.YtbmaofepmheeeaaKk
import Derived.WideKeyArr
namespace Go.Proofs.Ytbmaofepmheeeaa
open Go Go.RowKit

theorem und_of_kind_map {P : Program} {t : TypeId} {T : TyI} (hT : TyFacts P t T) {k e : TypeId} (h : T.kind = .map k e) : P.underlying t = some (.map k e) := by
  rw [hT.kind] at h
  unfold kindX at h
  split at h <;> first | (cases h; done) | (split at h <;> cases h; done) | (cases h; assumption)

theorem und_of_kind_int {P : Program} {t : TypeId} {T : TyI} (hT : TyFacts P t T) {k : IntKind} (h : T.kind = .int k) : P.underlying t = some (.int k) := by
  rw [hT.kind] at h
  unfold kindX at h
  split at h <;> first | (cases h; done) | (split at h <;> cases h; done) | (cases h; assumption)

structure MapFacts (P : Program) (t : TypeId) (n : Nat) (E : TyI) where
  kt : TypeId
  et : TypeId
  und : P.underlying t = some (.map kt et)
  law : WideMaps.KeyLaw P kt
  key : ∀ k, keyOK n k → ∃ l, keyOf P kt (keyVal k) = some l
  el : TyFacts P et E

theorem mapM_some {α β : Type} {g : α → Option β} : ∀ {l : List α}, (∀ x ∈ l, (g x).isSome = true) → ∃ r, l.mapM g = some r
  | [], _ => ⟨[], rfl⟩
  | x :: l, h => by
    obtain ⟨y, hy⟩ := Option.isSome_iff_exists.1 (h x (by simp))
    obtain ⟨r, hr⟩ := mapM_some (l := l) (fun z hz => h z (by simp [hz]))
    exact ⟨y :: r, by simp [List.mapM_cons, hy, hr]⟩

theorem key_of {P : Program} {kt ie : TypeId} {n : Nat} (A : WideMaps.ArrKey P kt ie n) (hi : P.underlying ie = some (.int .i64)) (hsz : ∃ m, P.types.size = m + 1) {k : List Int} (hk : keyOK n k) : ∃ l, keyOf P kt (keyVal k) = some l := by
  obtain ⟨hl, hw⟩ := hk
  have hkt := A.keyType hsz
  obtain ⟨m, hm⟩ := hsz
  have hm2 : ∃ m', m + 1 = m' + 1 := ⟨m, rfl⟩
  have hcs : (keyVal k).cells.toList = k.map (Value.int .i64) := by simp [keyVal, Value.cells]
  have hlen : (keyVal k).cells.toList.length = n := by rw [hcs]; simpa using hl
  have hpos : 0 < m ∨ m = 0 := by omega
  have hlits : ∃ L, P.keyLits (m + 2) kt (keyVal k).cells.toList = some L := by
    unfold Program.keyLits
    rw [A.hu]
    dsimp only
    rw [if_pos (by rw [hlen, A.size])]
    obtain ⟨r, hr⟩ := mapM_some (l := List.range n) (g := fun i => P.keyLits (m + 1) ie (((keyVal k).cells.toList.drop (i * P.cellsOf ie)).take (P.cellsOf ie))) (fun i hi' => by
      have hi2 : i < n := by simpa using hi'
      rw [A.one, Nat.mul_one, hcs]
      have hd : ((k.map (Value.int .i64)).drop i).take 1 = [.int .i64 (k[i]'(by omega))] := by
        rw [List.drop_eq_getElem_cons (by simp; omega)]; simp
      rw [hd]
      unfold Program.keyLits
      rw [hi]
      have := hw (k[i]'(by omega)) (List.getElem_mem _)
      have hwf : (Lit.int .i64 (k[i]'(by omega))).wf = true := by
        simp only [Lit.wf, Bool.and_eq_true, decide_eq_true_eq]
        have e1 : IntKind.i64.min = -9223372036854775808 := by decide
        have e2 : IntKind.i64.max = 9223372036854775807 := by decide
        rw [e1, e2]; omega
      simp [hwf])
    exact ⟨r.flatten, by rw [hr]; rfl⟩
  obtain ⟨L, hL⟩ := hlits
  refine ⟨.string (keyBytes L), ?_⟩
  unfold keyOf
  rw [A.hu]
  have hf : (keyVal k).formed P kt = true := by
    have hs : (keyVal k).cells.size = n := by have := hlen; simpa using this
    simp only [keyVal, Value.formed, A.hu, A.size, beq_iff_eq]
    simpa using hl
  dsimp only
  rw [hkt, hf, Bool.and_self, if_pos rfl, hm, show m + 1 + 1 = m + 2 from rfl, hL]
  rfl

theorem mapTy_facts {G : Gen} {t : TypeId} {n : Nat} {E : TyI} (h : mapTy G.ty t = some (n, E)) : Nonempty (MapFacts G.P t n E) := by
  unfold mapTy at h
  split at h
  · rename_i T hT
    split at h
    · rename_i kt et hk
      split at h
      · rename_i Kt E' hKt hE
        split at h
        · rename_i n' ie hka
          split at h
          · rename_i I hI
            split at h
            · rename_i hki
              split at h
              · rename_i hc
                simp only [Option.some.injEq, Prod.mk.injEq] at h
                obtain ⟨rfl, rfl⟩ := h
                obtain ⟨hT⟩ := tyX_facts (G.ok _ _ hT)
                obtain ⟨hKt⟩ := tyX_facts (G.ok _ _ hKt)
                obtain ⟨hE⟩ := tyX_facts (G.ok _ _ hE)
                obtain ⟨hI⟩ := tyX_facts (G.ok _ _ hI)
                have hi := und_of_kind_int hI hki
                have A : WideMaps.ArrKey G.P kt ie n' := ⟨und_of_kind_array hKt hka, by simp [Program.plainKey, hi], by simp [Program.cellsOf, hI.info, ← hI.size, hc.1], by simp [Program.cellsOf, hKt.info, ← hKt.size, hc.2]⟩
                have hsz : ∃ m, G.P.types.size = m + 1 := by
                  have := G.sized
                  rw [Nat.blt_eq] at this
                  exact ⟨G.P.types.size - 1, by omega⟩
                exact ⟨⟨kt, et, und_of_kind_map hT hk, A.law, fun k hk => key_of A hi hsz hk, hE⟩⟩
              · cases h
            · cases h
          · cases h
        · cases h
      · cases h
    · cases h
  · cases h

theorem keyVal_inj {k k' : List Int} (h : keyVal k = keyVal k') : k = k' := by
  unfold keyVal at h
  simp only [Value.agg.injEq] at h
  have h2 : k.map (Value.int .i64) = k'.map (Value.int .i64) := by simpa using congrArg Array.toList h
  exact (List.map_inj_right (fun a b h => by simpa using h)).1 h2

theorem lookup_none {es : List (List Int × DV)} {k : List Int} (h : ∀ x ∈ es, x.1 ≠ k) : es.lookup k = none := by
  induction es with
  | nil => rfl
  | cons x r ih =>
    obtain ⟨k', v⟩ := x
    have hne : (k == k') = false := by
      have h1 : k' ≠ k := h (k', v) (by simp)
      exact beq_eq_false_iff_ne.2 (Ne.symm h1)
    rw [List.lookup_cons, hne]
    exact ih (fun y hy => h y (by simp [hy]))

theorem lookup_at {es : List (List Int × DV)} {k : List Int} {v : DV} {j : Nat} (hnd : (es.map (·.1)).Nodup) (h : es[j]? = some (k, v)) : es.lookup k = some v := by
  induction es generalizing j with
  | nil => simp at h
  | cons x r ih =>
    obtain ⟨k', v'⟩ := x
    simp only [List.map_cons, List.nodup_cons] at hnd
    cases j with
    | zero => simp at h; rw [h.1, h.2]; simp
    | succ j =>
      have hr : r[j]? = some (k, v) := by simpa using h
      have hne : (k == k') = false := by
        have : k ∈ r.map (·.1) := List.mem_map.2 ⟨_, List.mem_of_getElem? hr, rfl⟩
        have : k ≠ k' := fun e => hnd.1 (e ▸ this)
        simpa using this
      rw [List.lookup_cons, hne]
      exact ih hnd.2 hr

theorem keyX_spec : ∀ {cs : List CV} {k : List Int}, keyX cs = some k → cs = k.map (fun n => .d (.v (.int .i64 n)))
  | [], k, h => by obtain rfl := Option.some.inj h; rfl
  | x :: r, k, h => by
    unfold keyX at h
    split at h
    · rename_i h0; cases h0
    · rename_i n r' heq
      simp only [List.cons.injEq] at heq
      obtain ⟨rfl, rfl⟩ := heq
      split at h
      · rename_i k' hk'
        obtain rfl := Option.some.inj h
        rw [keyX_spec hk']; rfl
      · cases h
    · cases h

theorem key_val {c : Ctx} {objs : Objs} {w : World} {cs : List CV} {k : List Int} {v : Value} (h : keyX cs = some k) (hv : RelV1 c objs w (.agg cs) v) : v = keyVal k := by
  obtain ⟨vs, rfl, h2, h3⟩ := hv
  rw [keyX_spec h] at h2 h3
  unfold keyVal
  congr 1
  apply Array.ext_getElem?
  intro i
  by_cases hi : i < k.length
  · obtain ⟨u, m1, m2⟩ := h3 i (.d (.v (.int .i64 k[i]))) (by simp [hi])
    obtain rfl := Rep.v_inv m2
    rw [m1]; simp [hi]
  · rw [Array.getElem?_eq_none (by simp at h2; omega), Array.getElem?_eq_none (by simp; omega)]

theorem rel_dvX {c : Ctx} {objs : Objs} {w : World} {d : DV} {u : Value} (h : RepDV w c.R d u) : RelV1 c objs w (dvX d) u := by
  cases d with
  | c x => exact rel_cvOf h
  | agg xs =>
    obtain ⟨vs, rfl, h2, h3⟩ := h
    refine ⟨vs, rfl, by simpa using h2, fun i x hx => ?_⟩
    simp only [List.getElem?_map, Option.map_eq_some_iff] at hx
    obtain ⟨d, hd, rfl⟩ := hx
    obtain ⟨u, k1, k2⟩ := h3 i d hd
    exact ⟨u, k1, rel_cvOf k2⟩

theorem rel_zeroX {P : Program} {t : TypeId} {E : TyI} (hE : TyFacts P t E) {K : V1 → Prop} (h : zeroX E K) (c : Ctx) (objs : Objs) (w : World) : ∃ z, RelV1 c objs w z hE.z ∧ K z := by
  have hz : ∀ (i : Nat) x, E.zero[i]? = some x → ∃ u, hE.z.cells[i]? = some u ∧ RelCV c objs w x u := by
    intro i x hx
    rw [hE.zeros] at hx
    simp only [List.getElem?_map, Option.map_eq_some_iff] at hx
    obtain ⟨u, h1, rfl⟩ := hx
    exact ⟨u, by simpa using h1, rel_constCV _ _ _ _ (hE.ones u (List.mem_of_getElem? h1))⟩
  have haz := hE.aggz
  unfold zeroX at h
  split at h
  · rename_i ha
    rw [ha] at haz
    cases hzz : hE.z with
    | agg vs =>
      rw [hzz] at hz
      refine ⟨.agg E.zero, ⟨vs, rfl, ?_, hz⟩, h⟩
      have := hE.zeros
      rw [hzz] at this
      rw [this]; simp [Value.cells]
    | _ => rw [hzz] at haz; cases haz
  · rename_i ha
    rw [ha] at haz
    split at h
    · rename_i x hx
      obtain ⟨u, h1, h2⟩ := hz 0 x (by rw [hx]; rfl)
      refine ⟨.c x, ?_, h⟩
      have : hE.z.cells = #[hE.z] := by
        cases hzz : hE.z with
        | agg vs => rw [hzz] at haz; cases haz
        | _ => rfl
      rw [this] at h1
      simp at h1
      rw [h1]; exact h2
    · exact h.elim

theorem run_makeMap {P : Program} {t : TypeId} {c : Ctx} {objs : Objs} {w : World} (hr : RelObjs c objs w) (n : Nat) :
    ∃ c' w', (Instr.makeMap t none).run P w = .ok (.map (some w.heap.size)) w' ∧ Ext objs.length c objs w c' (objs ++ [(0, .map n [])]) w' ∧ RelObjs c' (objs ++ [(0, .map n [])]) w' ∧
      RelCV c' (objs ++ [(0, .map n [])]) w' (.mp objs.length 0) (.map (some w.heap.size)) := by
  have hE := new_ext (c := c) (objs := objs) (w := w) (ob := .map #[] 0) (x := (0, .map n []))
  refine ⟨_, w.alloc (.map #[] 0), by simp [Instr.makeMap, newObj, Sem.run], hE, new_objs hr ⟨w.heap.size, 0, #[], 0, by simp [Ctx.at], heap_alloc_new w _, rfl, by simp, by simp, by simp⟩, rfl, ⟨0, _, by simp; rfl, Nat.le_refl _⟩, fun _ => ⟨w.heap.size, 0, by simp [Ctx.at], rfl⟩⟩

/-- A map's block, as the keys' law sees it. -/
theorem map_find {P : Program} {t : TypeId} {n : Nat} {E : TyI} (M : MapFacts P t n E) {w : World} {R : Nat → Prop} {ents : Array MapEntry} {es : List (List Int × DV)} {key : List Int} (hkey : keyOK n key) (hsz : ents.size = es.length)
    (hnd : (es.map (·.1)).Nodup) (hok : ∀ x ∈ es, keyOK n x.1) (hen : ∀ (i : Nat) k v, es[i]? = some (k, v) → ∃ en, ents[i]? = some en ∧ en.key = keyVal k ∧ RepDV w R v en.val) :
    ((Instr.findKey M.kt (keyVal key) ents.toList).run P w = .ok none w ∧ es.lookup key = none ∧ key ∉ es.map (·.1)) ∨
    ∃ (j : Nat) (en : MapEntry) (v : DV), (Instr.findKey M.kt (keyVal key) ents.toList).run P w = .ok (some (j, en.val)) w ∧ ents[j]? = some en ∧ en.key = keyVal key ∧ es[j]? = some (key, v) ∧ es.lookup key = some v ∧ RepDV w R v en.val := by
  obtain ⟨l, hl⟩ := M.key key hkey
  have hall : ∀ en ∈ ents.toList, ∃ (i : Nat) (k : List Int) (v : DV), es[i]? = some (k, v) ∧ ents[i]? = some en ∧ en.key = keyVal k := by
    intro en he
    obtain ⟨i, hi, rfl⟩ := List.mem_iff_getElem.1 he
    have hi2 : i < es.length := by simp at hi; omega
    obtain ⟨en', h1, h2, _⟩ := hen i es[i].1 es[i].2 (List.getElem?_eq_getElem hi2)
    have he' : ents[i]? = some ents.toList[i] := by simp
    rw [he'] at h1
    obtain rfl := Option.some.inj h1
    exact ⟨i, _, _, List.getElem?_eq_getElem hi2, he', h2⟩
  rcases M.law.find w hl ents.toList (fun en he => by
    obtain ⟨i, k, v, h1, _, h3⟩ := hall en he
    rw [h3]
    exact M.key k (hok _ (List.mem_of_getElem? h1))) with ⟨h1, h2⟩ | ⟨j, en, h1, h2, h3⟩
  · have hno : ∀ x ∈ es, x.1 ≠ key := by
      intro x hx e
      obtain ⟨i, hi, rfl⟩ := List.mem_iff_getElem.1 hx
      obtain ⟨en, k1, k2, _⟩ := hen i es[i].1 es[i].2 (List.getElem?_eq_getElem hi)
      exact h2 en (List.mem_of_getElem? (by simpa using k1)) (by rw [k2, e])
    refine .inl ⟨h1, lookup_none hno, fun hm => ?_⟩
    obtain ⟨x, hx, hx2⟩ := List.mem_map.1 hm
    exact hno x hx hx2
  · have hj : j < es.length := by
      have := (List.getElem?_eq_some_iff.1 h2).1
      simp at this; omega
    obtain ⟨en', k1, k2, k3⟩ := hen j es[j].1 es[j].2 (List.getElem?_eq_getElem hj)
    have h2' : ents[j]? = some en := by simpa using h2
    rw [h2'] at k1
    obtain rfl := Option.some.inj k1
    have hk : es[j].1 = key := keyVal_inj (by rw [← k2, h3])
    have hes : es[j]? = some (key, es[j].2) := by rw [List.getElem?_eq_getElem hj, ← hk]
    exact .inr ⟨j, en, _, h1, h2', h3, hes, lookup_at hnd hes, k3⟩

theorem run_lookupX {P : Program} {t : TypeId} {n : Nat} {E : TyI} (M : MapFacts P t n E) {c : Ctx} {objs : Objs} {w : World} {x : CV} {ix : List CV} {ok : Bool} {u v : Value} {k : SV → Prop} (hr : RelObjs c objs w)
    (h : lookupX n E objs x ix ok k) (hx : RelCV c objs w x u) (hi : RelV1 c objs w (.agg ix) v) : ∃ r z, (Instr.lookup t u v ok).run P w = .ok r w ∧ RelSV c objs w z r ∧ k z := by
  unfold lookupX at h
  split at h
  · rename_i o ver key hkx
    split at h
    · rename_i n' es hob
      replace h := chkP_iff.1 h; obtain ⟨rfl, hkey, h⟩ := h
      obtain ⟨hob, hlive⟩ := objRd_ob hr hob
      obtain ⟨b, base, h1, rfl⟩ := hx.2.2 hlive
      obtain ⟨b', base', ents, clock, g1, g2, g3, g4, g5, g6⟩ := hob
      rw [h1] at g1
      obtain ⟨rfl, rfl⟩ : b = b' ∧ base = base' := by simpa using g1
      obtain rfl := key_val hkx hi
      obtain ⟨l, hl⟩ := M.key key hkey
      replace h := h.at_
      rcases map_find M hkey g3 g4 g5 g6 with ⟨f1, f2, _⟩ | ⟨j, en, d, f1, f2, f3, f4, f5, f6⟩
      · rw [f2] at h
        obtain ⟨z, hz, hk⟩ := rel_zeroX M.el h c objs w
        have hrun : (Instr.lookup t (.map (some b)) (keyVal key) ok).run P w = .ok (if ok then .tuple #[M.el.z, .bool false] else M.el.z) w := by
          cases ok <;> simp [Instr.lookup, run_underlying M.und, MapKept.run_getObj_map g2, M.law.check w _ hl, f1, M.el.run_zero]
        cases ok with
        | true => exact ⟨_, .tup [z, .c (vB false)], hrun, ⟨_, rfl, rfl, fun i x hx => by
            match i, hx with
            | 0, hx => obtain rfl := Option.some.inj hx; exact ⟨_, rfl, hz⟩
            | 1, hx => obtain rfl := Option.some.inj hx; exact ⟨_, rfl, relV (objs := objs) _ rfl⟩⟩, hk⟩
        | false => exact ⟨_, .one z, hrun, hz, hk⟩
      · rw [f5] at h
        have hrun : (Instr.lookup t (.map (some b)) (keyVal key) ok).run P w = .ok (if ok then .tuple #[en.val, .bool true] else en.val) w := by
          cases ok <;> simp [Instr.lookup, run_underlying M.und, MapKept.run_getObj_map g2, M.law.check w _ hl, f1]
        cases ok with
        | true => exact ⟨_, .tup [dvX d, .c (vB true)], hrun, ⟨_, rfl, rfl, fun i x hx => by
            match i, hx with
            | 0, hx => obtain rfl := Option.some.inj hx; exact ⟨_, rfl, rel_dvX f6⟩
            | 1, hx => obtain rfl := Option.some.inj hx; exact ⟨_, rfl, relV (objs := objs) _ rfl⟩⟩, h⟩
        | false => exact ⟨_, .one (dvX d), hrun, rel_dvX f6, h⟩
    · exact h.elim
  · exact h.elim

theorem run_freezeCs {objs' : Objs} {w : World} : ∀ {xs : List CV} {c : Ctx} {objs : Objs} {ds : List DC} {us : List Value}, RelObjs c objs w → freezeCs objs xs = some (ds, objs') → freezeOKs objs xs → us.length = xs.length →
    (∀ (i : Nat) x, xs[i]? = some x → ∃ u, us[i]? = some u ∧ RelCV c objs w x u) →
    ∃ c', Ext objs.length c objs w c' objs' w ∧ RelObjs c' objs' w ∧ us.length = ds.length ∧ (∀ (i : Nat) d, ds[i]? = some d → ∃ u, us[i]? = some u ∧ Rep w c'.R d u) ∧ objs'.length = objs.length
  | [], c, objs, ds, us, hr, h, _, hl, _ => by
    simp only [freezeCs, Option.some.injEq, Prod.mk.injEq] at h
    obtain ⟨rfl, rfl⟩ := h
    exact ⟨c, Ext.refl _ _ _ _, hr, hl, by simp, rfl⟩
  | x :: r, c, objs, ds, [], hr, h, _, hl, _ => by simp at hl
  | x :: r, c, objs, ds, u :: us, hr, h, hok, hl, hx => by
    unfold freezeCs at h
    split at h
    · rename_i d objs1 hd
      split at h
      · rename_i ds' objs2 hds
        simp only [Option.some.injEq, Prod.mk.injEq] at h
        obtain ⟨rfl, rfl⟩ := h
        obtain ⟨hok1, hok2⟩ := hok
        rw [hd] at hok2
        obtain ⟨u', m1, m2⟩ := hx 0 x rfl
        obtain rfl : u = u' := by simpa using m1
        obtain ⟨c1, hE1, hr1, hd1, hl1⟩ := run_freezeC hr hd hok1 m2
        obtain ⟨c2, hE2, hr2, hl2, hx2, hl3⟩ := run_freezeCs (us := us) hr1 hds hok2 (by simpa using hl) (fun i y hy => by
          obtain ⟨u, k1, k2⟩ := hx (i + 1) y (by simpa using hy)
          exact ⟨u, by simpa using k1, hE1.relCV (Nat.le_refl _) hr k2⟩)
        refine ⟨c2, hE1.trans hE2 hE1.len0, hr2, by simp [hl2], fun i d' hd' => ?_, by omega⟩
        cases i with
        | zero => simp only [List.getElem?_cons_zero, Option.some.injEq] at hd' ⊢; subst hd'; exact ⟨u, rfl, hE2.rep hr1 hd1⟩
        | succ i => simpa using hx2 i d' (by simpa using hd')
      · cases h
    · cases h

theorem run_freezeV {c : Ctx} {objs objs' : Objs} {w : World} {x : V1} {d : DV} {u : Value} (hr : RelObjs c objs w) (h : freezeV objs x = some (d, objs')) (hok : freezeVOK objs x) (hx : RelV1 c objs w x u) :
    ∃ c', Ext objs.length c objs w c' objs' w ∧ RelObjs c' objs' w ∧ RepDV w c'.R d u ∧ objs'.length = objs.length := by
  cases x with
  | c x =>
    dsimp only [freezeV] at h
    split at h
    · rename_i d' objs1 hd
      simp only [Option.some.injEq, Prod.mk.injEq] at h
      obtain ⟨rfl, rfl⟩ := h
      exact run_freezeC hr hd hok hx
    · cases h
  | agg xs =>
    dsimp only [freezeV] at h
    split at h
    · rename_i ds objs1 hd
      simp only [Option.some.injEq, Prod.mk.injEq] at h
      obtain ⟨rfl, rfl⟩ := h
      obtain ⟨vs, rfl, h2, h3⟩ := hx
      obtain ⟨c', k1, k2, k3, k4, k5⟩ := run_freezeCs (us := vs.toList) hr hd hok (by simpa using h2) (fun i x hi => by obtain ⟨u, p1, p2⟩ := h3 i x hi; exact ⟨u, by simpa using p1, p2⟩)
      exact ⟨c', k1, k2, ⟨vs, rfl, by simpa using k3, fun i d hd => by obtain ⟨u, p1, p2⟩ := k4 i d hd; exact ⟨u, by simpa using p1, p2⟩⟩, k5⟩
    · cases h

theorem updM_none {es : List (List Int × DV)} {k : List Int} {v : DV} (h : k ∉ es.map (·.1)) : updM es k v = es ++ [(k, v)] := by
  induction es with
  | nil => rfl
  | cons x r ih =>
    obtain ⟨k', v'⟩ := x
    simp only [List.map_cons, List.mem_cons, not_or] at h
    unfold updM
    rw [if_neg (by simpa using Ne.symm h.1), ih h.2]
    rfl

theorem updM_at {es : List (List Int × DV)} {k : List Int} {v v0 : DV} {j : Nat} (hnd : (es.map (·.1)).Nodup) (h : es[j]? = some (k, v0)) : updM es k v = es.set j (k, v) := by
  induction es generalizing j with
  | nil => simp at h
  | cons x r ih =>
    obtain ⟨k', v'⟩ := x
    simp only [List.map_cons, List.nodup_cons] at hnd
    unfold updM
    cases j with
    | zero => simp at h; rw [if_pos (by simp [h.1])]; rfl
    | succ j =>
      have hr : r[j]? = some (k, v0) := by simpa using h
      have hne : k' ≠ k := fun e => hnd.1 (e ▸ List.mem_map.2 ⟨_, List.mem_of_getElem? hr, rfl⟩)
      rw [if_neg (by simpa using hne), ih hnd.2 hr]
      rfl

theorem setBlock_ok (w : World) (b : Nat) (o : Obj) (hb : b < w.heap.size) : ({ w with heap := w.heap.setIfInBounds b o } : World).heap[b]? = some o := by
  simp [hb]

theorem run_updX {P : Program} {t : TypeId} {n : Nat} {E : TyI} (M : MapFacts P t n E) {c : Ctx} {objs : Objs} {w : World} {x : CV} {ix : List CV} {y : V1} {u v z : Value} {K : Objs → Prop} (hr : RelObjs c objs w)
    (h : updX n objs x ix y K) (hx : RelCV c objs w x u) (hi : RelV1 c objs w (.agg ix) v) (hy : RelV1 c objs w y z) :
    ∃ c' w' objs', (Instr.mapUpdate t u v z).run P w = .ok () w' ∧ Ext objs.length c objs w c' objs' w' ∧ RelObjs c' objs' w' ∧ K objs' := by
  unfold updX at h
  split at h
  · rename_i o ver key hkx
    obtain ⟨hok, h⟩ := h
    split at h
    · rename_i d objs1 hfz
      obtain ⟨c1, hE1, hr1, hd, hl1⟩ := run_freezeV hr hfz hok hy
      have hx1 := hE1.relCV (Nat.le_refl _) hr hx
      split at h
      · rename_i n' es hob
        replace h := chkP_iff.1 h; obtain ⟨rfl, hkey, hK⟩ := h
        have ho := objAt_some hob
        obtain ⟨b, base, h1, rfl⟩ := hx1.2.2 (live_of_objAt hob (by simp))
        obtain ⟨b', base', ents, clock, g1, g2, g3, g4, g5, g6⟩ := hr1.ob _ _ _ ho
        rw [h1] at g1
        obtain ⟨rfl, rfl⟩ : b = b' ∧ base = base' := by simpa using g1
        obtain rfl := key_val hkx hi
        obtain ⟨l, hl⟩ := M.key key hkey
        have hbs : b < w.heap.size := (Array.getElem?_eq_some_iff.1 g2).1
        have gen : ∀ (ents' : Array MapEntry) (clock' : Nat), (Ext objs1.length c1 objs1 w c1 (objs1.set o (ver, .map n' (updM es key d))) { w with heap := w.heap.setIfInBounds b (.map ents' clock') } → RelOB c1 (objs1.set o (ver, .map n' (updM es key d))) { w with heap := w.heap.setIfInBounds b (.map ents' clock') } o (.map n' (updM es key d))) →
            Ext objs1.length c1 objs1 w c1 (objs1.set o (ver, .map n' (updM es key d))) { w with heap := w.heap.setIfInBounds b (.map ents' clock') } ∧ RelObjs c1 (objs1.set o (ver, .map n' (updM es key d))) { w with heap := w.heap.setIfInBounds b (.map ents' clock') } := by
          intro ents' clock' hn
          refine write_gen hr1 ho rfl rfl (.inl ⟨_, h1⟩) (by simp) rfl rfl rfl (fun k hk => by simp [Array.getElem?_setIfInBounds_ne (Ne.symm hk)]) (fun cs T hc => ?_) hn
          rw [g2] at hc
          cases hc
        rcases map_find M hkey g3 g4 g5 g6 with ⟨f1, _, f2⟩ | ⟨j, en, d0, f1, f2, f3, f4, _, _⟩
        · have hup := updM_none (v := d) f2
          have hW := gen (ents.push ⟨keyVal key, z, clock⟩) (clock + 1) fun hE => by
            refine ⟨b, base, _, _, h1, setBlock_ok w b _ hbs, by rw [hup]; simp [g3], ?_, ?_, ?_⟩
            · rw [hup, List.map_append, List.nodup_append]
              exact ⟨g4, by simp, fun a ha b' hb' => by simp at hb'; subst hb'; exact fun e => f2 (e ▸ ha)⟩
            · rw [hup]
              intro x hx
              rcases List.mem_append.1 hx with hx | hx
              · exact g5 x hx
              · simp at hx; subst hx; exact hkey
            · intro i k' v' hi'
              rw [hup] at hi'
              by_cases hlt : i < es.length
              · rw [List.getElem?_append_left hlt] at hi'
                obtain ⟨en, m1, m2, m3⟩ := g6 i k' v' hi'
                exact ⟨en, by rw [Array.getElem?_push_lt (by omega)]; rw [← m1]; exact (Array.getElem?_eq_getElem _).symm, m2, m3.keep hE hr1⟩
              · have hlt2 := (List.getElem?_eq_some_iff.1 hi').1
                simp at hlt2
                obtain rfl : i = es.length := by omega
                simp at hi'
                obtain ⟨rfl, rfl⟩ := hi'
                exact ⟨⟨keyVal key, z, clock⟩, by rw [← g3]; simp, rfl, hd.keep hE hr1⟩
          refine ⟨_, _, _, ?_, hE1.trans hW.1 hE1.len0, hW.2, hK⟩
          simp [Instr.mapUpdate, run_underlying M.und, MapKept.run_getObj_map g2, M.law.check w _ hl, f1, MapKept.run_setObj_map _ g2]
        · have hup := updM_at (v := d) g4 f4
          have hjl : j < es.length := (List.getElem?_eq_some_iff.1 f4).1
          have hW := gen (ents.modify j fun e => { e with key := keyVal key, val := z }) clock fun hE => by
            refine ⟨b, base, _, _, h1, setBlock_ok w b _ hbs, by rw [hup]; simp [g3], ?_, ?_, ?_⟩
            · rw [hup, List.map_set]
              have : (es.map (·.1)).set j key = es.map (·.1) := by
                apply List.ext_getElem?
                intro i
                by_cases e : j = i
                · subst e; rw [List.getElem?_set_self (by simpa using hjl)]; simp [f4]
                · rw [List.getElem?_set_ne e]
              rw [this]; exact g4
            · rw [hup]
              intro x hx
              rcases List.mem_or_eq_of_mem_set hx with hx | rfl
              · exact g5 x hx
              · exact hkey
            · intro i k' v' hi'
              rw [hup, List.getElem?_set] at hi'
              by_cases e : j = i
              · subst e
                rw [if_pos rfl, if_pos hjl] at hi'
                simp only [Option.some.injEq, Prod.mk.injEq] at hi'
                obtain ⟨rfl, rfl⟩ := hi'
                exact ⟨_, by rw [Array.getElem?_modify, if_pos rfl, f2]; rfl, rfl, hd.keep hE hr1⟩
              · rw [if_neg e] at hi'
                obtain ⟨en', m1, m2, m3⟩ := g6 i k' v' hi'
                exact ⟨en', by rw [Array.getElem?_modify, if_neg e]; exact m1, m2, m3.keep hE hr1⟩
          refine ⟨_, _, _, ?_, hE1.trans hW.1 hE1.len0, hW.2, hK⟩
          simp [Instr.mapUpdate, run_underlying M.und, MapKept.run_getObj_map g2, M.law.check w _ hl, f1, f2, f3, M.law.stays w hl, MapKept.run_setObj_map _ g2]
      · exact h.elim
    · exact h.elim
  · exact h.elim

theorem run_index_arr {P : Program} {t e : TypeId} {len : Nat} {E : TyI} {ki : IntKind} (hu : P.underlying t = some (.array len e)) (hE : TyFacts P e E) (hk : E.kind = .int ki) (hs : E.size = 1) {vs : Array Value} {n : Int} {u : Value} (h0 : 0 ≤ n) (h1 : n < len)
    (hv : vs[n.toNat]? = some u) (w : World) : (Instr.index t (.agg vs) (.int .i64 n)).run P w = .ok u w := by
  have hi := und_of_kind_int hE hk
  simp [Instr.index, run_underlying hu, asIntOf, h0, h1, hE.run_sizeOf, hs, isAgg, run_underlying hi, hv, go_sem]

theorem run_field_one {P : Program} {t : TypeId} {fields : Array Field} {f : Nat} {fd : Field} {T : TyI} (hu : P.underlying t = some (.struct fields)) (hf : fields[f]? = some fd) (hT : TyFacts P fd.type T) (hg : T.kind.agg = false) {vs : Array Value} {u : Value} (hv : vs[fd.offset]? = some u) (w : World) :
    (Instr.field t (.agg vs) f).run P w = .ok u w := by
  simp [Instr.field, run_underlying hu, hf, asAgg, part, hT.run_isAgg, hg, hv, go_sem]

theorem run_field_agg {P : Program} {t : TypeId} {fields : Array Field} {f : Nat} {fd : Field} {T : TyI} (hu : P.underlying t = some (.struct fields)) (hf : fields[f]? = some fd) (hT : TyFacts P fd.type T) (hg : T.kind.agg = true) {vs : Array Value} (w : World) :
    (Instr.field t (.agg vs) f).run P w = .ok (.agg (vs.extract fd.offset (fd.offset + T.size))) w := by
  simp [Instr.field, run_underlying hu, hf, asAgg, part, hT.run_isAgg, hg, hT.run_sizeOf, go_sem]

theorem fieldAt_facts {G : Gen} {t : TypeId} {f off : Nat} {T : TyI} (h : fieldAt G t f = some (off, T)) : ∃ fields fd, G.P.underlying t = some (.struct fields) ∧ fields[f]? = some fd ∧ fd.offset = off ∧ Nonempty (TyFacts G.P fd.type T) := by
  unfold fieldAt at h
  split at h
  · rename_i fields hu
    split at h
    · rename_i fd hf
      split at h
      · rename_i T' hT
        simp only [Option.some.injEq, Prod.mk.injEq] at h
        obtain ⟨rfl, rfl⟩ := h
        exact ⟨fields, fd, hu, hf, rfl, tyX_facts (G.ok _ _ hT)⟩
      · cases h
    · cases h
  · cases h

end Go.Proofs.Ytbmaofepmheeeaa

/- The executor is sound: maps. -/
import Derived.Test.YtmfdkjjhdjkgpaaQZb
import Derived.WideKeyArr
namespace Go.Proofs.Ytmfdkjjhdjkgpaa
open Go Go.RowKit

theorem und_of_kind_map {P : Program} {t : TypeId} {T : TyI} (hT : TyFacts P t T) {k e : TypeId} (h : T.kind = .map k e) : P.underlying t = some (.map k e) := by
  rw [hT.kind] at h
  unfold kindX at h
  split at h <;> first | (cases h; done) | (split at h <;> cases h; done) | (cases h; assumption)

structure MapFacts (P : Program) (t : TypeId) (n : Nat) (E : TyI) where
  kt : TypeId
  et : TypeId
  und : P.underlying t = some (.map kt et)
  law : WideMaps.KeyLaw P kt
  key : ∀ k, keyOK n k → ∃ l, keyOf P kt (keyVal k) = some l
  el : TyFacts P et E

theorem mapM_some {α β : Type} {g : α → Option β} : ∀ {l : List α}, (∀ x ∈ l, (g x).isSome = true) → ∃ r, l.mapM g = some r
  | [], _ => ⟨[], rfl⟩
  | x :: l, h => by
    obtain ⟨y, hy⟩ := Option.isSome_iff_exists.1 (h x (by simp))
    obtain ⟨r, hr⟩ := mapM_some (l := l) (fun z hz => h z (by simp [hz]))
    exact ⟨y :: r, by simp [List.mapM_cons, hy, hr]⟩

theorem key_of {P : Program} {kt ie : TypeId} {n : Nat} (A : WideMaps.ArrKey P kt ie n) (hi : P.underlying ie = some (.int .i64)) (hsz : ∃ m, P.types.size = m + 1) {k : List Int} (hk : keyOK n k) : ∃ l, keyOf P kt (keyVal k) = some l := by
  obtain ⟨hl, hw⟩ := hk
  have hkt := A.keyType hsz
  obtain ⟨m, hm⟩ := hsz
  have hm2 : ∃ m', m + 1 = m' + 1 := ⟨m, rfl⟩
  have hcs : (keyVal k).cells.toList = k.map (Value.int .i64) := by simp [keyVal, Value.cells]
  have hlen : (keyVal k).cells.toList.length = n := by rw [hcs]; simpa using hl
  have hpos : 0 < m ∨ m = 0 := by omega
  have hlits : ∃ L, P.keyLits (m + 2) kt (keyVal k).cells.toList = some L := by
    unfold Program.keyLits
    rw [A.hu]
    dsimp only
    rw [if_pos (by rw [hlen, A.size])]
    obtain ⟨r, hr⟩ := mapM_some (l := List.range n) (g := fun i => P.keyLits (m + 1) ie (((keyVal k).cells.toList.drop (i * P.cellsOf ie)).take (P.cellsOf ie))) (fun i hi' => by
      have hi2 : i < n := by simpa using hi'
      rw [A.one, Nat.mul_one, hcs]
      have hd : ((k.map (Value.int .i64)).drop i).take 1 = [.int .i64 (k[i]'(by omega))] := by
        rw [List.drop_eq_getElem_cons (by simp; omega)]; simp
      rw [hd]
      unfold Program.keyLits
      rw [hi]
      have := hw (k[i]'(by omega)) (List.getElem_mem _)
      have hwf : (Lit.int .i64 (k[i]'(by omega))).wf = true := by
        simp only [Lit.wf, Bool.and_eq_true, decide_eq_true_eq]
        have e1 : IntKind.i64.min = -9223372036854775808 := by decide
        have e2 : IntKind.i64.max = 9223372036854775807 := by decide
        rw [e1, e2]; omega
      simp [hwf])
    exact ⟨r.flatten, by rw [hr]; rfl⟩
  obtain ⟨L, hL⟩ := hlits
  refine ⟨.string (keyBytes L), ?_⟩
  unfold keyOf
  rw [A.hu]
  have hf : (keyVal k).formed P kt = true := by
    have hs : (keyVal k).cells.size = n := by have := hlen; simpa using this
    simp only [keyVal, Value.formed, A.hu, A.size, beq_iff_eq]
    simpa using hl
  dsimp only
  rw [hkt, hf, Bool.and_self, if_pos rfl, hm, show m + 1 + 1 = m + 2 from rfl, hL]
  rfl

theorem mapTy_facts {G : Gen} {t : TypeId} {n : Nat} {E : TyI} (h : mapTy G.ty t = some (n, E)) : Nonempty (MapFacts G.P t n E) := by
  unfold mapTy at h
  split at h
  · rename_i T hT
    split at h
    · rename_i kt et hk
      split at h
      · rename_i Kt E' hKt hE
        split at h
        · rename_i n' ie hka
          split at h
          · rename_i I hI
            split at h
            · rename_i hki
              split at h
              · rename_i hc
                simp only [Option.some.injEq, Prod.mk.injEq] at h
                obtain ⟨rfl, rfl⟩ := h
                obtain ⟨hT⟩ := tyX_facts (G.ok _ _ hT)
                obtain ⟨hKt⟩ := tyX_facts (G.ok _ _ hKt)
                obtain ⟨hE⟩ := tyX_facts (G.ok _ _ hE)
                obtain ⟨hI⟩ := tyX_facts (G.ok _ _ hI)
                have hi := und_of_kind_int hI hki
                have A : WideMaps.ArrKey G.P kt ie n' := ⟨und_of_kind_array hKt hka, by simp [Program.plainKey, hi], by simp [Program.cellsOf, hI.info, ← hI.size, hc.1], by simp [Program.cellsOf, hKt.info, ← hKt.size, hc.2]⟩
                have hsz : ∃ m, G.P.types.size = m + 1 := by
                  have := G.sized
                  rw [Nat.blt_eq] at this
                  exact ⟨G.P.types.size - 1, by omega⟩
                exact ⟨⟨kt, et, und_of_kind_map hT hk, A.law, fun k hk => key_of A hi hsz hk, hE⟩⟩
              · cases h
            · cases h
          · cases h
        · cases h
      · cases h
    · cases h
  · cases h

theorem keyVal_inj {k k' : List Int} (h : keyVal k = keyVal k') : k = k' := by
  unfold keyVal at h
  simp only [Value.agg.injEq] at h
  have h2 : k.map (Value.int .i64) = k'.map (Value.int .i64) := by simpa using congrArg Array.toList h
  exact (List.map_inj_right (fun a b h => by simpa using h)).1 h2

theorem lookup_none {es : List (List Int × DV)} {k : List Int} (h : ∀ x ∈ es, x.1 ≠ k) : es.lookup k = none := by
  induction es with
  | nil => rfl
  | cons x r ih =>
    obtain ⟨k', v⟩ := x
    have hne : (k == k') = false := by
      have h1 : k' ≠ k := h (k', v) (by simp)
      exact beq_eq_false_iff_ne.2 (Ne.symm h1)
    rw [List.lookup_cons, hne]
    exact ih (fun y hy => h y (by simp [hy]))

theorem lookup_at {es : List (List Int × DV)} {k : List Int} {v : DV} {j : Nat} (hnd : (es.map (·.1)).Nodup) (h : es[j]? = some (k, v)) : es.lookup k = some v := by
  induction es generalizing j with
  | nil => simp at h
  | cons x r ih =>
    obtain ⟨k', v'⟩ := x
    simp only [List.map_cons, List.nodup_cons] at hnd
    cases j with
    | zero => simp at h; rw [h.1, h.2]; simp
    | succ j =>
      have hr : r[j]? = some (k, v) := by simpa using h
      have hne : (k == k') = false := by
        have : k ∈ r.map (·.1) := List.mem_map.2 ⟨_, List.mem_of_getElem? hr, rfl⟩
        have : k ≠ k' := fun e => hnd.1 (e ▸ this)
        simpa using this
      rw [List.lookup_cons, hne]
      exact ih hnd.2 hr

theorem keyX_spec : ∀ {cs : List CV} {k : List Int}, keyX cs = some k → cs = k.map (fun n => .d (.v (.int .i64 n)))
  | [], k, h => by obtain rfl := Option.some.inj h; rfl
  | x :: r, k, h => by
    unfold keyX at h
    split at h
    · rename_i h0; cases h0
    · rename_i n r' heq
      simp only [List.cons.injEq] at heq
      obtain ⟨rfl, rfl⟩ := heq
      split at h
      · rename_i k' hk'
        obtain rfl := Option.some.inj h
        rw [keyX_spec hk']; rfl
      · cases h
    · cases h

theorem key_val {c : Ctx} {objs : Objs} {w : World} {cs : List CV} {k : List Int} {v : Value} (h : keyX cs = some k) (hv : RelV1 c objs w (.agg cs) v) : v = keyVal k := by
  obtain ⟨vs, rfl, h2, h3⟩ := hv
  rw [keyX_spec h] at h2 h3
  unfold keyVal
  congr 1
  apply Array.ext_getElem?
  intro i
  by_cases hi : i < k.length
  · obtain ⟨u, m1, m2⟩ := h3 i (.d (.v (.int .i64 k[i]))) (by simp [hi])
    obtain rfl := Rep.v_inv m2
    rw [m1]; simp [hi]
  · rw [Array.getElem?_eq_none (by simp at h2; omega), Array.getElem?_eq_none (by simp; omega)]

theorem rel_dvX {c : Ctx} {objs : Objs} {w : World} {d : DV} {u : Value} (h : RepDV w c.R d u) : RelV1 c objs w (dvX d) u := by
  cases d with
  | c x => exact rel_cvOf h
  | agg xs =>
    obtain ⟨vs, rfl, h2, h3⟩ := h
    refine ⟨vs, rfl, by simpa using h2, fun i x hx => ?_⟩
    simp only [List.getElem?_map, Option.map_eq_some_iff] at hx
    obtain ⟨d, hd, rfl⟩ := hx
    obtain ⟨u, k1, k2⟩ := h3 i d hd
    exact ⟨u, k1, rel_cvOf k2⟩

theorem rel_zeroX {P : Program} {t : TypeId} {E : TyI} (hE : TyFacts P t E) {K : V1 → Prop} (h : zeroX E K) (c : Ctx) (objs : Objs) (w : World) : ∃ z, RelV1 c objs w z hE.z ∧ K z := by
  have hz : ∀ (i : Nat) x, E.zero[i]? = some x → ∃ u, hE.z.cells[i]? = some u ∧ RelCV c objs w x u := by
    intro i x hx
    rw [hE.zeros] at hx
    simp only [List.getElem?_map, Option.map_eq_some_iff] at hx
    obtain ⟨u, h1, rfl⟩ := hx
    exact ⟨u, by simpa using h1, rel_constCV _ _ _ _ (hE.ones u (List.mem_of_getElem? h1))⟩
  have haz := hE.aggz
  unfold zeroX at h
  split at h
  · rename_i ha
    rw [ha] at haz
    cases hzz : hE.z with
    | agg vs =>
      rw [hzz] at hz
      refine ⟨.agg E.zero, ⟨vs, rfl, ?_, hz⟩, h⟩
      have := hE.zeros
      rw [hzz] at this
      rw [this]; simp [Value.cells]
    | _ => rw [hzz] at haz; cases haz
  · rename_i ha
    rw [ha] at haz
    split at h
    · rename_i x hx
      obtain ⟨u, h1, h2⟩ := hz 0 x (by rw [hx]; rfl)
      refine ⟨.c x, ?_, h⟩
      have : hE.z.cells = #[hE.z] := by
        cases hzz : hE.z with
        | agg vs => rw [hzz] at haz; cases haz
        | _ => rfl
      rw [this] at h1
      simp at h1
      rw [h1]; exact h2
    · exact h.elim

theorem run_makeMap {P : Program} {t : TypeId} {c : Ctx} {objs : Objs} {w : World} (hr : RelObjs c objs w) (n : Nat) :
    ∃ c' w', (Instr.makeMap t none).run P w = .ok (.map (some w.heap.size)) w' ∧ Ext objs.length c objs w c' (objs ++ [(0, .map n [])]) w' ∧ RelObjs c' (objs ++ [(0, .map n [])]) w' ∧
      RelCV c' (objs ++ [(0, .map n [])]) w' (.mp objs.length 0) (.map (some w.heap.size)) := by
  have hE := new_ext (c := c) (objs := objs) (w := w) (ob := .map #[] 0) (x := (0, .map n []))
  refine ⟨_, w.alloc (.map #[] 0), by simp [Instr.makeMap, newObj, Sem.run], hE, new_objs hr ⟨w.heap.size, 0, #[], 0, by simp [Ctx.at], heap_alloc_new w _, rfl, by simp, by simp, by simp⟩, rfl, ⟨0, _, by simp; rfl, Nat.le_refl _⟩, fun _ => ⟨w.heap.size, 0, by simp [Ctx.at], rfl⟩⟩

/-- A map's block, as the keys' law sees it. -/
theorem map_find {P : Program} {t : TypeId} {n : Nat} {E : TyI} (M : MapFacts P t n E) {w : World} {R : Nat → Prop} {ents : Array MapEntry} {es : List (List Int × DV)} {key : List Int} (hkey : keyOK n key) (hsz : ents.size = es.length)
    (hnd : (es.map (·.1)).Nodup) (hok : ∀ x ∈ es, keyOK n x.1) (hen : ∀ (i : Nat) k v, es[i]? = some (k, v) → ∃ en, ents[i]? = some en ∧ en.key = keyVal k ∧ RepDV w R v en.val) :
    ((Instr.findKey M.kt (keyVal key) ents.toList).run P w = .ok none w ∧ es.lookup key = none ∧ key ∉ es.map (·.1)) ∨
    ∃ (j : Nat) (en : MapEntry) (v : DV), (Instr.findKey M.kt (keyVal key) ents.toList).run P w = .ok (some (j, en.val)) w ∧ ents[j]? = some en ∧ en.key = keyVal key ∧ es[j]? = some (key, v) ∧ es.lookup key = some v ∧ RepDV w R v en.val := by
  obtain ⟨l, hl⟩ := M.key key hkey
  have hall : ∀ en ∈ ents.toList, ∃ (i : Nat) (k : List Int) (v : DV), es[i]? = some (k, v) ∧ ents[i]? = some en ∧ en.key = keyVal k := by
    intro en he
    obtain ⟨i, hi, rfl⟩ := List.mem_iff_getElem.1 he
    have hi2 : i < es.length := by simp at hi; omega
    obtain ⟨en', h1, h2, _⟩ := hen i es[i].1 es[i].2 (List.getElem?_eq_getElem hi2)
    have he' : ents[i]? = some ents.toList[i] := by simp
    rw [he'] at h1
    obtain rfl := Option.some.inj h1
    exact ⟨i, _, _, List.getElem?_eq_getElem hi2, he', h2⟩
  rcases M.law.find w hl ents.toList (fun en he => by
    obtain ⟨i, k, v, h1, _, h3⟩ := hall en he
    rw [h3]
    exact M.key k (hok _ (List.mem_of_getElem? h1))) with ⟨h1, h2⟩ | ⟨j, en, h1, h2, h3⟩
  · have hno : ∀ x ∈ es, x.1 ≠ key := by
      intro x hx e
      obtain ⟨i, hi, rfl⟩ := List.mem_iff_getElem.1 hx
      obtain ⟨en, k1, k2, _⟩ := hen i es[i].1 es[i].2 (List.getElem?_eq_getElem hi)
      exact h2 en (List.mem_of_getElem? (by simpa using k1)) (by rw [k2, e])
    refine .inl ⟨h1, lookup_none hno, fun hm => ?_⟩
    obtain ⟨x, hx, hx2⟩ := List.mem_map.1 hm
    exact hno x hx hx2
  · have hj : j < es.length := by
      have := (List.getElem?_eq_some_iff.1 h2).1
      simp at this; omega
    obtain ⟨en', k1, k2, k3⟩ := hen j es[j].1 es[j].2 (List.getElem?_eq_getElem hj)
    have h2' : ents[j]? = some en := by simpa using h2
    rw [h2'] at k1
    obtain rfl := Option.some.inj k1
    have hk : es[j].1 = key := keyVal_inj (by rw [← k2, h3])
    have hes : es[j]? = some (key, es[j].2) := by rw [List.getElem?_eq_getElem hj, ← hk]
    exact .inr ⟨j, en, _, h1, h2', h3, hes, lookup_at hnd hes, k3⟩

theorem run_lookupX {P : Program} {t : TypeId} {n : Nat} {E : TyI} (M : MapFacts P t n E) {c : Ctx} {objs : Objs} {w : World} {x : CV} {ix : List CV} {ok : Bool} {u v : Value} {k : SV → Prop} (hr : RelObjs c objs w)
    (h : lookupX n E objs x ix ok k) (hx : RelCV c objs w x u) (hi : RelV1 c objs w (.agg ix) v) : ∃ r z, (Instr.lookup t u v ok).run P w = .ok r w ∧ RelSV c objs w z r ∧ k z := by
  unfold lookupX at h
  split at h
  · rename_i o ver key hkx
    split at h
    · rename_i n' es hob
      replace h := chkP_iff.1 h; obtain ⟨rfl, hkey, h⟩ := h
      obtain ⟨hob, hlive⟩ := objRd_ob hr hob
      obtain ⟨b, base, h1, rfl⟩ := hx.2.2 hlive
      obtain ⟨b', base', ents, clock, g1, g2, g3, g4, g5, g6⟩ := hob
      rw [h1] at g1
      obtain ⟨rfl, rfl⟩ : b = b' ∧ base = base' := by simpa using g1
      obtain rfl := key_val hkx hi
      obtain ⟨l, hl⟩ := M.key key hkey
      replace h := h.at_
      rcases map_find M hkey g3 g4 g5 g6 with ⟨f1, f2, _⟩ | ⟨j, en, d, f1, f2, f3, f4, f5, f6⟩
      · rw [f2] at h
        obtain ⟨z, hz, hk⟩ := rel_zeroX M.el h c objs w
        have hrun : (Instr.lookup t (.map (some b)) (keyVal key) ok).run P w = .ok (if ok then .tuple #[M.el.z, .bool false] else M.el.z) w := by
          cases ok <;> simp [Instr.lookup, run_underlying M.und, MapKept.run_getObj_map g2, M.law.check w _ hl, f1, M.el.run_zero]
        cases ok with
        | true => exact ⟨_, .tup [z, .c (vB false)], hrun, ⟨_, rfl, rfl, fun i x hx => by
            match i, hx with
            | 0, hx => obtain rfl := Option.some.inj hx; exact ⟨_, rfl, hz⟩
            | 1, hx => obtain rfl := Option.some.inj hx; exact ⟨_, rfl, relV (objs := objs) _ rfl⟩⟩, hk⟩
        | false => exact ⟨_, .one z, hrun, hz, hk⟩
      · rw [f5] at h
        have hrun : (Instr.lookup t (.map (some b)) (keyVal key) ok).run P w = .ok (if ok then .tuple #[en.val, .bool true] else en.val) w := by
          cases ok <;> simp [Instr.lookup, run_underlying M.und, MapKept.run_getObj_map g2, M.law.check w _ hl, f1]
        cases ok with
        | true => exact ⟨_, .tup [dvX d, .c (vB true)], hrun, ⟨_, rfl, rfl, fun i x hx => by
            match i, hx with
            | 0, hx => obtain rfl := Option.some.inj hx; exact ⟨_, rfl, rel_dvX f6⟩
            | 1, hx => obtain rfl := Option.some.inj hx; exact ⟨_, rfl, relV (objs := objs) _ rfl⟩⟩, h⟩
        | false => exact ⟨_, .one (dvX d), hrun, rel_dvX f6, h⟩
    · exact h.elim
  · exact h.elim

theorem run_freezeCs {objs' : Objs} {w : World} : ∀ {xs : List CV} {c : Ctx} {objs : Objs} {ds : List DC} {us : List Value}, RelObjs c objs w → freezeCs objs xs = some (ds, objs') → freezeOKs objs xs → us.length = xs.length →
    (∀ (i : Nat) x, xs[i]? = some x → ∃ u, us[i]? = some u ∧ RelCV c objs w x u) →
    ∃ c', Ext objs.length c objs w c' objs' w ∧ RelObjs c' objs' w ∧ us.length = ds.length ∧ (∀ (i : Nat) d, ds[i]? = some d → ∃ u, us[i]? = some u ∧ Rep w c'.R d u) ∧ objs'.length = objs.length
  | [], c, objs, ds, us, hr, h, _, hl, _ => by
    simp only [freezeCs, Option.some.injEq, Prod.mk.injEq] at h
    obtain ⟨rfl, rfl⟩ := h
    exact ⟨c, Ext.refl _ _ _ _, hr, hl, by simp, rfl⟩
  | x :: r, c, objs, ds, [], hr, h, _, hl, _ => by simp at hl
  | x :: r, c, objs, ds, u :: us, hr, h, hok, hl, hx => by
    unfold freezeCs at h
    split at h
    · rename_i d objs1 hd
      split at h
      · rename_i ds' objs2 hds
        simp only [Option.some.injEq, Prod.mk.injEq] at h
        obtain ⟨rfl, rfl⟩ := h
        obtain ⟨hok1, hok2⟩ := hok
        rw [hd] at hok2
        obtain ⟨u', m1, m2⟩ := hx 0 x rfl
        obtain rfl : u = u' := by simpa using m1
        obtain ⟨c1, hE1, hr1, hd1, hl1⟩ := run_freezeC hr hd hok1 m2
        obtain ⟨c2, hE2, hr2, hl2, hx2, hl3⟩ := run_freezeCs (us := us) hr1 hds hok2 (by simpa using hl) (fun i y hy => by
          obtain ⟨u, k1, k2⟩ := hx (i + 1) y (by simpa using hy)
          exact ⟨u, by simpa using k1, hE1.relCV (Nat.le_refl _) hr k2⟩)
        refine ⟨c2, hE1.trans hE2 hE1.len0, hr2, by simp [hl2], fun i d' hd' => ?_, by omega⟩
        cases i with
        | zero => simp only [List.getElem?_cons_zero, Option.some.injEq] at hd' ⊢; subst hd'; exact ⟨u, rfl, hE2.rep hr1 hd1⟩
        | succ i => simpa using hx2 i d' (by simpa using hd')
      · cases h
    · cases h

theorem run_freezeV {c : Ctx} {objs objs' : Objs} {w : World} {x : V1} {d : DV} {u : Value} (hr : RelObjs c objs w) (h : freezeV objs x = some (d, objs')) (hok : freezeVOK objs x) (hx : RelV1 c objs w x u) :
    ∃ c', Ext objs.length c objs w c' objs' w ∧ RelObjs c' objs' w ∧ RepDV w c'.R d u ∧ objs'.length = objs.length := by
  cases x with
  | c x =>
    dsimp only [freezeV] at h
    split at h
    · rename_i d' objs1 hd
      simp only [Option.some.injEq, Prod.mk.injEq] at h
      obtain ⟨rfl, rfl⟩ := h
      exact run_freezeC hr hd hok hx
    · cases h
  | agg xs =>
    dsimp only [freezeV] at h
    split at h
    · rename_i ds objs1 hd
      simp only [Option.some.injEq, Prod.mk.injEq] at h
      obtain ⟨rfl, rfl⟩ := h
      obtain ⟨vs, rfl, h2, h3⟩ := hx
      obtain ⟨c', k1, k2, k3, k4, k5⟩ := run_freezeCs (us := vs.toList) hr hd hok (by simpa using h2) (fun i x hi => by obtain ⟨u, p1, p2⟩ := h3 i x hi; exact ⟨u, by simpa using p1, p2⟩)
      exact ⟨c', k1, k2, ⟨vs, rfl, by simpa using k3, fun i d hd => by obtain ⟨u, p1, p2⟩ := k4 i d hd; exact ⟨u, by simpa using p1, p2⟩⟩, k5⟩
    · cases h

theorem updM_none {es : List (List Int × DV)} {k : List Int} {v : DV} (h : k ∉ es.map (·.1)) : updM es k v = es ++ [(k, v)] := by
  induction es with
  | nil => rfl
  | cons x r ih =>
    obtain ⟨k', v'⟩ := x
    simp only [List.map_cons, List.mem_cons, not_or] at h
    unfold updM
    rw [if_neg (by simpa using Ne.symm h.1), ih h.2]
    rfl

theorem updM_at {es : List (List Int × DV)} {k : List Int} {v v0 : DV} {j : Nat} (hnd : (es.map (·.1)).Nodup) (h : es[j]? = some (k, v0)) : updM es k v = es.set j (k, v) := by
  induction es generalizing j with
  | nil => simp at h
  | cons x r ih =>
    obtain ⟨k', v'⟩ := x
    simp only [List.map_cons, List.nodup_cons] at hnd
    unfold updM
    cases j with
    | zero => simp at h; rw [if_pos (by simp [h.1])]; rfl
    | succ j =>
      have hr : r[j]? = some (k, v0) := by simpa using h
      have hne : k' ≠ k := fun e => hnd.1 (e ▸ List.mem_map.2 ⟨_, List.mem_of_getElem? hr, rfl⟩)
      rw [if_neg (by simpa using hne), ih hnd.2 hr]
      rfl

theorem setBlock_ok (w : World) (b : Nat) (o : Obj) (hb : b < w.heap.size) : ({ w with heap := w.heap.setIfInBounds b o } : World).heap[b]? = some o := by
  simp [hb]

theorem run_updX {P : Program} {t : TypeId} {n : Nat} {E : TyI} (M : MapFacts P t n E) {c : Ctx} {objs : Objs} {w : World} {x : CV} {ix : List CV} {y : V1} {u v z : Value} {K : Objs → Prop} (hr : RelObjs c objs w)
    (h : updX n objs x ix y K) (hx : RelCV c objs w x u) (hi : RelV1 c objs w (.agg ix) v) (hy : RelV1 c objs w y z) :
    ∃ c' w' objs', (Instr.mapUpdate t u v z).run P w = .ok () w' ∧ Ext objs.length c objs w c' objs' w' ∧ RelObjs c' objs' w' ∧ K objs' := by
  unfold updX at h
  split at h
  · rename_i o ver key hkx
    obtain ⟨hok, h⟩ := h
    split at h
    · rename_i d objs1 hfz
      obtain ⟨c1, hE1, hr1, hd, hl1⟩ := run_freezeV hr hfz hok hy
      have hx1 := hE1.relCV (Nat.le_refl _) hr hx
      split at h
      · rename_i n' es hob
        replace h := chkP_iff.1 h; obtain ⟨rfl, hkey, hK⟩ := h
        have ho := objAt_some hob
        obtain ⟨b, base, h1, rfl⟩ := hx1.2.2 (live_of_objAt hob (by simp))
        obtain ⟨b', base', ents, clock, g1, g2, g3, g4, g5, g6⟩ := hr1.ob _ _ _ ho
        rw [h1] at g1
        obtain ⟨rfl, rfl⟩ : b = b' ∧ base = base' := by simpa using g1
        obtain rfl := key_val hkx hi
        obtain ⟨l, hl⟩ := M.key key hkey
        have hbs : b < w.heap.size := (Array.getElem?_eq_some_iff.1 g2).1
        have gen : ∀ (ents' : Array MapEntry) (clock' : Nat), (Ext objs1.length c1 objs1 w c1 (objs1.set o (ver, .map n' (updM es key d))) { w with heap := w.heap.setIfInBounds b (.map ents' clock') } → RelOB c1 (objs1.set o (ver, .map n' (updM es key d))) { w with heap := w.heap.setIfInBounds b (.map ents' clock') } o (.map n' (updM es key d))) →
            Ext objs1.length c1 objs1 w c1 (objs1.set o (ver, .map n' (updM es key d))) { w with heap := w.heap.setIfInBounds b (.map ents' clock') } ∧ RelObjs c1 (objs1.set o (ver, .map n' (updM es key d))) { w with heap := w.heap.setIfInBounds b (.map ents' clock') } := by
          intro ents' clock' hn
          refine write_gen hr1 ho rfl rfl (.inl ⟨_, h1⟩) (by simp) rfl rfl rfl (fun k hk => by simp [Array.getElem?_setIfInBounds_ne (Ne.symm hk)]) (fun cs T hc => ?_) hn
          rw [g2] at hc
          cases hc
        rcases map_find M hkey g3 g4 g5 g6 with ⟨f1, _, f2⟩ | ⟨j, en, d0, f1, f2, f3, f4, _, _⟩
        · have hup := updM_none (v := d) f2
          have hW := gen (ents.push ⟨keyVal key, z, clock⟩) (clock + 1) fun hE => by
            refine ⟨b, base, _, _, h1, setBlock_ok w b _ hbs, by rw [hup]; simp [g3], ?_, ?_, ?_⟩
            · rw [hup, List.map_append, List.nodup_append]
              exact ⟨g4, by simp, fun a ha b' hb' => by simp at hb'; subst hb'; exact fun e => f2 (e ▸ ha)⟩
            · rw [hup]
              intro x hx
              rcases List.mem_append.1 hx with hx | hx
              · exact g5 x hx
              · simp at hx; subst hx; exact hkey
            · intro i k' v' hi'
              rw [hup] at hi'
              by_cases hlt : i < es.length
              · rw [List.getElem?_append_left hlt] at hi'
                obtain ⟨en, m1, m2, m3⟩ := g6 i k' v' hi'
                exact ⟨en, by rw [Array.getElem?_push_lt (by omega)]; rw [← m1]; exact (Array.getElem?_eq_getElem _).symm, m2, m3.keep hE hr1⟩
              · have hlt2 := (List.getElem?_eq_some_iff.1 hi').1
                simp at hlt2
                obtain rfl : i = es.length := by omega
                simp at hi'
                obtain ⟨rfl, rfl⟩ := hi'
                exact ⟨⟨keyVal key, z, clock⟩, by rw [← g3]; simp, rfl, hd.keep hE hr1⟩
          refine ⟨_, _, _, ?_, hE1.trans hW.1 hE1.len0, hW.2, hK⟩
          simp [Instr.mapUpdate, run_underlying M.und, MapKept.run_getObj_map g2, M.law.check w _ hl, f1, MapKept.run_setObj_map _ g2]
        · have hup := updM_at (v := d) g4 f4
          have hjl : j < es.length := (List.getElem?_eq_some_iff.1 f4).1
          have hW := gen (ents.modify j fun e => { e with key := keyVal key, val := z }) clock fun hE => by
            refine ⟨b, base, _, _, h1, setBlock_ok w b _ hbs, by rw [hup]; simp [g3], ?_, ?_, ?_⟩
            · rw [hup, List.map_set]
              have : (es.map (·.1)).set j key = es.map (·.1) := by
                apply List.ext_getElem?
                intro i
                by_cases e : j = i
                · subst e; rw [List.getElem?_set_self (by simpa using hjl)]; simp [f4]
                · rw [List.getElem?_set_ne e]
              rw [this]; exact g4
            · rw [hup]
              intro x hx
              rcases List.mem_or_eq_of_mem_set hx with hx | rfl
              · exact g5 x hx
              · exact hkey
            · intro i k' v' hi'
              rw [hup, List.getElem?_set] at hi'
              by_cases e : j = i
              · subst e
                rw [if_pos rfl, if_pos hjl] at hi'
                simp only [Option.some.injEq, Prod.mk.injEq] at hi'
                obtain ⟨rfl, rfl⟩ := hi'
                exact ⟨_, by rw [Array.getElem?_modify, if_pos rfl, f2]; rfl, rfl, hd.keep hE hr1⟩
              · rw [if_neg e] at hi'
                obtain ⟨en', m1, m2, m3⟩ := g6 i k' v' hi'
                exact ⟨en', by rw [Array.getElem?_modify, if_neg e]; exact m1, m2, m3.keep hE hr1⟩
          refine ⟨_, _, _, ?_, hE1.trans hW.1 hE1.len0, hW.2, hK⟩
          simp [Instr.mapUpdate, run_underlying M.und, MapKept.run_getObj_map g2, M.law.check w _ hl, f1, f2, f3, M.law.stays w hl, MapKept.run_setObj_map _ g2]
      · exact h.elim
    · exact h.elim
  · exact h.elim

theorem run_index_arr {P : Program} {t e : TypeId} {len : Nat} {E : TyI} {ki : IntKind} (hu : P.underlying t = some (.array len e)) (hE : TyFacts P e E) (hk : E.kind = .int ki) (hs : E.size = 1) {vs : Array Value} {n : Int} {u : Value} (h0 : 0 ≤ n) (h1 : n < len)
    (hv : vs[n.toNat]? = some u) (w : World) : (Instr.index t (.agg vs) (.int .i64 n)).run P w = .ok u w := by
  have hi := und_of_kind_int hE hk
  simp [Instr.index, run_underlying hu, asIntOf, h0, h1, hE.run_sizeOf, hs, isAgg, run_underlying hi, hv, go_sem]

theorem run_field_one {P : Program} {t : TypeId} {fields : Array Field} {f : Nat} {fd : Field} {T : TyI} (hu : P.underlying t = some (.struct fields)) (hf : fields[f]? = some fd) (hT : TyFacts P fd.type T) (hg : T.kind.agg = false) {vs : Array Value} {u : Value} (hv : vs[fd.offset]? = some u) (w : World) :
    (Instr.field t (.agg vs) f).run P w = .ok u w := by
  simp [Instr.field, run_underlying hu, hf, asAgg, part, hT.run_isAgg, hg, hv, go_sem]

theorem run_field_agg {P : Program} {t : TypeId} {fields : Array Field} {f : Nat} {fd : Field} {T : TyI} (hu : P.underlying t = some (.struct fields)) (hf : fields[f]? = some fd) (hT : TyFacts P fd.type T) (hg : T.kind.agg = true) {vs : Array Value} (w : World) :
    (Instr.field t (.agg vs) f).run P w = .ok (.agg (vs.extract fd.offset (fd.offset + T.size))) w := by
  simp [Instr.field, run_underlying hu, hf, asAgg, part, hT.run_isAgg, hg, hT.run_sizeOf, go_sem]

theorem fieldAt_facts {G : Gen} {t : TypeId} {f off : Nat} {T : TyI} (h : fieldAt G t f = some (off, T)) : ∃ fields fd, G.P.underlying t = some (.struct fields) ∧ fields[f]? = some fd ∧ fd.offset = off ∧ Nonempty (TyFacts G.P fd.type T) := by
  unfold fieldAt at h
  split at h
  · rename_i fields hu
    split at h
    · rename_i fd hf
      split at h
      · rename_i T' hT
        simp only [Option.some.injEq, Prod.mk.injEq] at h
        obtain ⟨rfl, rfl⟩ := h
        exact ⟨fields, fd, hu, hf, rfl, tyX_facts (G.ok _ _ hT)⟩
      · cases h
    · cases h
  · cases h

end Go.Proofs.Ytmfdkjjhdjkgpaa

namespace Go.Proofs.Ytmfdkjjhdjkgpaa
open Go Go.RowKit

theorem isBoolX_und (G : Gen) (t : TypeId) (h : isBoolX G t = true) : G.P.underlying t = some .bool := by
  unfold isBoolX at h
  split at h
  · rename_i T hT
    obtain ⟨hT⟩ := tyX_facts (G.ok _ _ hT)
    split at h
    · rename_i hk; exact und_of_kind_bool hT hk
    · cases h
  · cases h

theorem isSliceX_und (G : Gen) (t : TypeId) (h : isSliceX G t = true) : ∃ e, G.P.underlying t = some (.slice e) := by
  unfold isSliceX at h
  split at h
  · rename_i T hT
    obtain ⟨hT⟩ := tyX_facts (G.ok _ _ hT)
    split at h
    · rename_i e hk; exact ⟨e, und_of_kind_slice hT hk⟩
    · cases h
  · cases h

theorem run_nil {P : Program} {t e : TypeId} (hu : P.underlying t = some (.slice e)) (a : Option Addr) (n cp : Nat) (w : World) : (Op.equal t (.slice a n cp) (.slice none 0 0)).run P w = .ok a.isNone w := by
  unfold Op.equal Op.maxDepth
  rw [show (10000 : Nat) = 9999 + 1 from rfl, Op.equalIn]
  cases a <;> simp [run_underlying hu]

theorem run_nilX {P : Program} {c : Ctx} {objs : Objs} {w : World} {op : BinOp} {t e : TypeId} {xo yo : Operand} {x : CV} {u v : Value} {K : CV → Prop}
    (hu : P.underlying t = some (.slice e)) (h : nilX objs op x K) (hx : RelCV c objs w x u) (hv : v = .slice none 0 0) :
    ∃ z r, (∀ w', (do eqGuard op t xo yo u v; binOp op t u v : Sem Value).run P w' = .ok r w') ∧ RelCV c objs w z r ∧ K z := by
  subst hv
  have form : ∀ (p : Prop) (a : Option Addr) (n cp : Nat), u = .slice a n cp → (a = none → p) → (op = .eql ∧ NilQ p (K (vB true)) (K (vB false)) ∨ op = .neq ∧ NilQ p (K (vB false)) (K (vB true))) →
      ∃ z r, (∀ w', (do eqGuard op t xo yo u (.slice none 0 0); binOp op t u (.slice none 0 0) : Sem Value).run P w' = .ok r w') ∧ RelCV c objs w z r ∧ K z := by
    rintro p a n cp rfl hp (⟨rfl, hq⟩ | ⟨rfl, hq⟩)
    · refine ⟨vB a.isNone, .bool a.isNone, fun w' => by simp [eqGuard, binOp, run_nil hu], relV _ rfl, ?_⟩
      cases a with
      | none => exact hq.nil (hp rfl)
      | some a => exact hq.no
    · refine ⟨vB !a.isNone, .bool !a.isNone, fun w' => by simp [eqGuard, binOp, run_nil hu], relV _ rfl, ?_⟩
      cases a with
      | none => exact hq.nil (hp rfl)
      | some a => exact hq.no
  have list : ∀ (e : Nat) (xs : List (List DC)), Rep w c.R (.list e xs) u → ∃ a cp, u = .slice a xs.length cp ∧ (a = none → xs = [] ∨ e = 0) := by
    intro e xs hx
    cases hx with
    | list _ _ a cap val hc hl hcell hrep =>
      refine ⟨a, cap, rfl, fun ha => ?_⟩
      by_cases h1 : xs = []
      · exact .inl h1
      · refine .inr ?_
        have hlen : 0 < xs.length := List.length_pos_iff.2 h1
        rcases Nat.eq_zero_or_pos e with h2 | h2
        · exact h2
        · obtain ⟨b, off, h3, _⟩ := hcell 0 0 hlen h2
          rw [ha] at h3; cases h3
  have own : ∀ (o ver e off len : Nat) (cap : Option Nat), RelCV c objs w (.sl o ver e off len cap) u → alive objs o ver → ∃ a cp, u = .slice a len cp ∧ (a = none → len = 0) := by
    intro o ver e off len cap hx hal
    obtain ⟨a, cp, h1, h2, h3, h4⟩ := hx.2.2 (alive_iff hal)
    refine ⟨a, cp, h1, fun ha => ?_⟩
    rcases Nat.eq_zero_or_pos cp with h5 | h5
    · omega
    · obtain ⟨b, base, cs, T, _, h6, _⟩ := h4 h5
      rw [ha] at h6; cases h6
  unfold nilX at h
  split at h
  · split at h
    · obtain rfl := hx
      exact ⟨vB true, .bool true, fun w' => by simp [eqGuard, binOp, run_nil hu], relV _ rfl, h⟩
    · obtain ⟨a, cp, h1, h2⟩ := list _ _ hx
      exact form _ a _ cp h1 h2 (.inl ⟨rfl, h⟩)
    · obtain ⟨hal, h⟩ := chkP_iff.1 h
      obtain ⟨a, cp, h1, h2⟩ := own _ _ _ _ _ _ hx hal
      exact form _ a _ cp h1 h2 (.inl ⟨rfl, h⟩)
    · exact h.elim
  · split at h
    · obtain rfl := hx
      exact ⟨vB false, .bool false, fun w' => by simp [eqGuard, binOp, run_nil hu], relV _ rfl, h⟩
    · obtain ⟨a, cp, h1, h2⟩ := list _ _ hx
      exact form _ a _ cp h1 h2 (.inr ⟨rfl, h⟩)
    · obtain ⟨hal, h⟩ := chkP_iff.1 h
      obtain ⟨a, cp, h1, h2⟩ := own _ _ _ _ _ _ hx hal
      exact form _ a _ cp h1 h2 (.inr ⟨rfl, h⟩)
    · exact h.elim
  · exact h.elim

theorem run_buildSlice' {P : Program} {t e : TypeId} {E : TyI} (hu : P.underlying t = some (.slice e)) (hE : TyFacts P e E) {w : World} {len : Nat} {parts : Array (Nat × Value)} {cells : Array Value} (hs : len * E.size ≤ 1000000)
    (h : Instr.fill (fun i => some (i * E.size, E.size)) ((Array.range (len * E.size)).map (hE.z.cells[· % hE.z.cells.size]!)) parts.toList = some cells) :
    (Instr.buildSlice t len parts).run P w = .ok (.slice (some ⟨w.heap.size, 0, none⟩) len len) (w.alloc (.cells cells e)) := by
  have hsz : E.size = hE.i.size := hE.size
  by_cases h0 : len * E.size = 0
  · have h1 : ((Array.range (len * E.size)).map (hE.z.cells[· % hE.z.cells.size]!)) = #[] := by
      rw [h0]; apply Array.ext'; simp
    have h2 : ((Array.range (len * E.size)).map ((#[] : Array Value)[· % (#[] : Array Value).size]!)) = #[] := by
      rw [h0]; apply Array.ext'; simp
    rw [h1] at h
    unfold Instr.buildSlice
    simp only [Sem.run_bind, run_underlying hu, Result.andThen_ok, hE.run_sizeOf]
    rw [if_neg (by omega), if_pos h0]
    simp only [Sem.run_bind, Sem.run_pure, Result.andThen_ok, h2, h, newRow, newObj, Sem.run]
    rfl
  · exact run_buildSlice (P := P) w t e len parts cells hE.i hE.z hu hE.info hE.zero (by rw [← hsz]; omega) (by rw [← hsz]; exact h0) (by rw [← hsz]; exact h)

theorem run_freezePs {w : World} : ∀ {ps ps' : List (Nat × List CV)} {vs : List (Nat × Value)} {c : Ctx} {objs objs' : Objs}, RelObjs c objs w → freezePs objs ps = some (ps', objs') → freezePsOK objs ps → RelParts c objs w ps vs →
    ∃ c', Ext objs.length c objs w c' objs' w ∧ RelObjs c' objs' w ∧ RelParts c' objs' w ps' vs ∧ objs'.length = objs.length
  | [], ps', vs, c, objs, objs', hr, h, _, hp => by
    simp only [freezePs, Option.some.injEq, Prod.mk.injEq] at h
    obtain ⟨rfl, rfl⟩ := h
    exact ⟨c, Ext.refl _ _ _ _, hr, hp, rfl⟩
  | (i, xs) :: r, ps', [], c, objs, objs', hr, h, _, hp => hp.elim
  | (i, xs) :: r, ps', (j, v) :: vs, c, objs, objs', hr, h, hok, hp => by
    obtain ⟨rfl, hv, hp⟩ := hp
    unfold freezePs at h
    split at h
    · rename_i ds objs1 hd
      split at h
      · rename_i ps2 objs2 hps
        simp only [Option.some.injEq, Prod.mk.injEq] at h
        obtain ⟨rfl, rfl⟩ := h
        obtain ⟨hok1, hok2⟩ := hok
        rw [hd] at hok2
        obtain ⟨c1, hE1, hr1, hl1, hd1, hn1⟩ := run_freezeCs (us := v.cells.toList) hr hd hok1 hv.1 hv.2
        have mono : ∀ {ps : List (Nat × List CV)} {vs : List (Nat × Value)}, RelParts c objs w ps vs → RelParts c1 objs1 w ps vs := by
          intro ps
          induction ps with
          | nil => intro vs h; cases vs with
            | nil => trivial
            | cons => exact h.elim
          | cons p r ih => intro vs h; cases vs with
            | nil => exact h.elim
            | cons q s =>
              obtain ⟨i, xs⟩ := p
              obtain ⟨j, v⟩ := q
              exact ⟨h.1, ⟨h.2.1.1, fun i x hx => by obtain ⟨u, m1, m2⟩ := h.2.1.2 i x hx; exact ⟨u, m1, hE1.relCV (Nat.le_refl _) hr m2⟩⟩, ih h.2.2⟩
        obtain ⟨c2, hE2, hr2, hp2, hn2⟩ := run_freezePs hr1 hps hok2 (mono hp)
        refine ⟨c2, hE1.trans hE2 hE1.len0, hr2, ⟨rfl, ⟨by simpa using hl1, fun k x hx => ?_⟩, hp2⟩, by omega⟩
        simp only [List.getElem?_map, Option.map_eq_some_iff] at hx
        obtain ⟨d, hd', rfl⟩ := hx
        obtain ⟨u, m1, m2⟩ := hd1 k d hd'
        exact ⟨u, m1, hE2.rep hr1 m2⟩
      · cases h
    · cases h

theorem opX_sound {G : Gen} {o : Oper} {st : St} {c : Ctx} {a : Act} {w : World} {k : SV → Objs → Prop} {next : Act → World → Prop} {Q : Exit → Act → World → Prop}
    (h : opX G o st k) (hr : Rel c st a w) (hk : ∀ v w', Steps1 c st.objs w k v w' → next (a.put o.dst v) w') : o.wp G.P a w next Q := by
  have fin : ∀ {v w'}, (execOp a.eval o).run G.P w = .ok (.value v) w' → Steps1 c st.objs w k v w' → o.wp G.P a w next Q := fun h1 h2 => wp_value h1 (hk _ _ h2)
  have fin2 : ∀ {v z : _}, (execOp a.eval o).run G.P w = .ok (.value v) w → RelCV c st.objs w z v → k (.one (.c z)) st.objs → o.wp G.P a w next Q :=
    fun h1 h2 h3 => fin h1 (.same hr.objs (sv := .one (.c _)) h2 h3)
  unfold opX at h
  split at h
  · rename_i x ho
    exact fin (by simp [execOp, ho]) (.same hr.objs (hr.eval x) h)
  · rename_i x ho
    exact fin (by simp [execOp, ho]) (.same hr.objs (hr.eval x) h)
  · rename_i cc x y ho
    split at h
    · rename_i t hc
      have hcv := Rep.v_inv (one_of hr hc)
      cases t with
      | true => exact fin (by simp [execOp, ho, hcv, asBool]) (.same hr.objs (hr.eval x) (Br.yes h rfl))
      | false => exact fin (by simp [execOp, ho, hcv, asBool]) (.same hr.objs (hr.eval y) (Br.no h rfl))
    · exact h.elim
  · rename_i x ho
    split at h
    · rename_i o' ver off hx
      obtain ⟨hal, h⟩ := chkP_iff.1 h
      have h1 : RelCV c st.objs w (.ptr o' ver off) (a.eval x) := one_of hr hx
      obtain ⟨b, base, _, hv⟩ := h1.2.2 (alive_iff hal)
      exact fin2 (v := a.eval x) (by simp [execOp, ho, hv]) h1 h
    · exact h.elim
  · rename_i t ho
    split at h
    · rename_i T hT
      obtain ⟨hT⟩ := tyX_facts (G.ok _ _ hT)
      obtain ⟨c', w', h1, h2, h3, h4⟩ := run_alloc (P := G.P) hT hr.objs
      exact fin (by simp only [execOp, ho, Sem.run_bind, h1, Result.andThen_ok, Sem.run_pure]) ⟨c', _, .one (.c (.ptr st.objs.length 0 0)), h2, h3, h4, h⟩
    · exact h.elim
  · rename_i t x ho
    split at h
    · rename_i cs hcs
      obtain ⟨c', w', h1, h2, h3, h4⟩ := run_box (P := G.P) (t := t) hr.objs (cells_of hcs (hr.eval x))
      exact fin (by simp only [execOp, ho, Sem.run_bind, h1, Result.andThen_ok, Sem.run_pure]) ⟨c', _, .one (.c (.ptr st.objs.length 0 0)), h2, h3, h4, h⟩
    · exact h.elim
  · rename_i t parts ho
    split at h
    · rename_i T ps hT hps
      obtain ⟨hT⟩ := tyX_facts (G.ok _ _ hT)
      split at h
      · rename_i fs hk'
        split at h
        · rename_i cs hcs
          obtain ⟨cells, h1, h2⟩ := run_buildX (P := G.P) hT hk' (parts := parts.map fun (i, x) => (i, a.eval x)) hcs (by simpa using parts_of hr hps)
          exact fin (by simp only [execOp, ho, Sem.run_bind, h1, Result.andThen_ok, Sem.run_pure]) (.same hr.objs (sv := .one (.agg cs)) (rel_agg h2) h)
        · exact h.elim
      · rename_i n e hk'
        split at h
        · rename_i E hE hpl
          obtain ⟨hE⟩ := tyX_facts (G.ok _ _ hE)
          obtain ⟨h1, h2⟩ := run_build_arr (P := G.P) hT hk' hE (c := c) (objs := st.objs) (w := w) (parts := parts.map fun (i, x) => (i, a.eval x)) (by simpa using hpl)
          exact fin (by simp only [execOp, ho, Sem.run_bind, h1, Result.andThen_ok, Sem.run_pure]) (.same hr.objs (sv := .one (.agg T.zero)) (rel_agg h2) h)
        · exact h.elim
      · exact h.elim
    · exact h.elim
  · rename_i t len parts ho
    split at h
    · rename_i T ps hT hps
      obtain ⟨hT⟩ := tyX_facts (G.ok _ _ hT)
      split at h
      · rename_i e hk'
        split at h
        · rename_i E hE
          obtain ⟨hE⟩ := tyX_facts (G.ok _ _ hE)
          split at h
          · rename_i z hz
            split at h
            · rename_i xs hxs
              replace h := chkP_iff.1 h; obtain ⟨hpos, h⟩ := h
              replace h := chkP_iff.1 h; obtain ⟨hsm, h⟩ := h
              have hzr := zero_row hE (c := c) (w := w) hz len
              obtain ⟨cells, h1, h2, h3⟩ := run_fill_slice (w := w) ps (parts.map fun (i, x) => (i, a.eval x)).toList _ _ _ hxs (by simpa using parts_of hr hps) hzr
              rw [List.length_replicate] at h3
              have hsz : E.size = hE.i.size := hE.size
              have hb := run_buildSlice' (P := G.P) (und_of_kind_slice hT hk') hE (w := w) (len := len) (parts := parts.map fun (i, x) => (i, a.eval x)) (cells := cells) (by omega) h1
              obtain ⟨c', k1, k2, k3⟩ := new_row (T := e) hr.objs h2 h3 (Nat.le_refl len)
              exact fin (by simp only [execOp, ho, Sem.run_bind, hb, Result.andThen_ok, Sem.run_pure]) ⟨c', _, .one (.c (.sl st.objs.length 0 E.size 0 len (some len))), k1, k2, k3, h⟩
            · rcases h with h | h
              · split at h
                · rename_i pre o' ver' e2 len' post hown
                  split at h
                  · rename_i e3 ys hob
                    replace h := chkP_iff.1 h; obtain ⟨⟨rfl, rfl, he, hsm⟩, hlen, h⟩ := h
                    have hp : RelParts c st.objs w ps (parts.map fun (i, x) => (i, a.eval x)).toList := by simpa using parts_of hr hps
                    unfold ownPart at hown
                    split at hown
                    · rename_i cs _
                      generalize hL : (parts.map fun (i, x) => (i, a.eval x)).toList = L at hp
                      match L, hp with
                      | [(j, v)], hp =>
                        obtain ⟨rfl, hv, _⟩ := hp
                        obtain ⟨cap, s1, _⟩ := splitOwn_spec hown
                        have hvl : v.cells.toList.length = cs.length := hv.1
                        have hvs : v.cells.size = E.size := by have := hvl; simp at this; omega
                        have hsz : E.size = hE.i.size := hE.size
                        let Z : Array Value := (Array.range (1 * E.size)).map (hE.z.cells[· % hE.z.cells.size]!)
                        have hZ : Z.size = E.size := by simp [Z]
                        have hfill : Instr.fill (fun i => some (i * E.size, E.size)) Z [(0, v)] = some (putRow' Z 0 v.cells.toList) := by
                          unfold Instr.fill
                          simp only [Nat.zero_mul]
                          rw [if_neg (by simp [hvs]; omega), foldl_put (by rw [hvs]; omega)]
                          rfl
                        have hcells : (putRow' Z 0 v.cells.toList).toList = v.cells.toList := by
                          have hz : Z.size ≤ v.cells.size := by omega
                          simp [putRow', hz]
                        have hb := run_buildSlice' (P := G.P) (und_of_kind_slice hT hk') hE (w := w) (len := 1) (parts := parts.map fun (i, x) => (i, a.eval x)) (cells := putRow' Z 0 v.cells.toList) (by omega) (by rw [hL]; exact hfill)
                        obtain ⟨c', k1, k2, k3⟩ := build_own (te := e) (cells := putRow' Z 0 v.cells.toList) hr.objs (objAt_some hob) hlen hown he (by rw [hcells]; exact hv)
                        exact fin (by simp only [execOp, ho, Sem.run_bind, hb, Result.andThen_ok, Sem.run_pure]) ⟨c', _, .one (.c (.sl st.objs.length 1 E.size 0 1 (some 1))), k1, k2, k3, h⟩
                      | [], hp => exact hp.elim
                      | _ :: _ :: _, hp => obtain ⟨_, _, hp⟩ := hp; exact hp.elim
                    · cases hown
                  · exact h.elim
                · exact h.elim
              · obtain ⟨hok, h⟩ := h
                split at h
                · rename_i ps' objs' hfz
                  split at h
                  · rename_i xs hxs
                    replace h := chkP_iff.1 h; obtain ⟨hpos, h⟩ := h
                    replace h := chkP_iff.1 h; obtain ⟨hsm, h⟩ := h
                    have hp : RelParts c st.objs w ps (parts.map fun (i, x) => (i, a.eval x)).toList := by simpa using parts_of hr hps
                    obtain ⟨c0, hE0, hr0, hp0, hlen0⟩ := run_freezePs hr.objs hfz hok hp
                    have hzr := zero_row hE (c := c0) (w := w) hz len
                    obtain ⟨cells, h1, h2, h3⟩ := run_fill_slice (w := w) ps' (parts.map fun (i, x) => (i, a.eval x)).toList _ _ _ hxs hp0 hzr
                    rw [List.length_replicate] at h3
                    have hsz : E.size = hE.i.size := hE.size
                    have hb := run_buildSlice' (P := G.P) (und_of_kind_slice hT hk') hE (w := w) (len := len) (parts := parts.map fun (i, x) => (i, a.eval x)) (cells := cells) (by omega) h1
                    obtain ⟨c', k1, k2, k3⟩ := new_row (T := e) hr0 h2 h3 (Nat.le_refl len)
                    exact fin (by simp only [execOp, ho, Sem.run_bind, hb, Result.andThen_ok, Sem.run_pure]) ⟨c', _, .one (.c (.sl objs'.length 0 E.size 0 len (some len))), hE0.trans k1 hE0.len0, k2, k3, h⟩
                  · exact h.elim
                · exact h.elim
          · exact h.elim
        · exact h.elim
      · exact h.elim
    · exact h.elim
  · rename_i t l cp ho
    split at h
    · rename_i T l' cp' hT hl hcp
      obtain ⟨hT⟩ := tyX_facts (G.ok _ _ hT)
      split at h
      · rename_i e hk'
        split at h
        · rename_i E hE
          obtain ⟨hE⟩ := tyX_facts (G.ok _ _ hE)
          split at h
          · rename_i z hz
            replace h := chkP_iff.1 h; obtain ⟨hpos, h0, h1, h2, h3, h⟩ := h
            obtain ⟨k1, e1⟩ := intOf_eval hr hl
            obtain ⟨k2, e2⟩ := intOf_eval hr hcp
            have hrun := run_makeSlice' (P := G.P) (und_of_kind_slice hT hk') hE hpos (w := w) (k := k1) (k' := k2) h0 h1 h2 h3
            have plain : k (.one (.c (.sl st.objs.length 0 E.size 0 l'.toNat (some cp'.toNat)))) (st.objs ++ [(0, .arr E.size (List.replicate cp'.toNat z))]) → o.wp G.P a w next Q := fun h => by
              obtain ⟨c', m1, m2, m3⟩ := new_row (T := e) hr.objs (zero_row hE (c := c) (w := w) hz cp'.toNat) (by simp) (show l'.toNat ≤ cp'.toNat by omega)
              exact fin (by simp only [execOp, ho, e1, e2, Sem.run_bind, hrun, Result.andThen_ok, Sem.run_pure]) ⟨c', _, .one (.c (.sl st.objs.length 0 E.size 0 l'.toNat (some cp'.toNat))), m1, m2, m3, h⟩
            split at h
            · rcases h with h | h
              · obtain ⟨c', m1, m2, m3⟩ := new_grid (T := e) hr.objs (zero_row hE (c := c) (w := w) hz cp'.toNat) (by simp) (show l'.toNat ≤ cp'.toNat by omega)
                rw [List.map_replicate] at m1 m2 m3
                exact fin (by simp only [execOp, ho, e1, e2, Sem.run_bind, hrun, Result.andThen_ok, Sem.run_pure]) ⟨c', _, .one (.c (.sl st.objs.length 0 E.size 0 l'.toNat (some cp'.toNat))), m1, m2, m3, h⟩
              · exact plain h
            · exact plain h
          · exact h.elim
        · exact h.elim
      · exact h.elim
    · exact h.elim
  · rename_i t x ho
    split at h
    · rename_i T y hT hx
      obtain ⟨hT⟩ := tyX_facts (G.ok _ _ hT)
      obtain ⟨v, z, h1, h2, h3⟩ := run_loadX (P := G.P) hT hr.objs h (one_of hr hx)
      replace h1 := h1 w (SameOld.refl w)
      exact fin (by simp only [execOp, ho, Sem.run_bind, h1, Result.andThen_ok, Sem.run_pure]) (.same hr.objs (sv := .one z) h2 h3)
    · exact h.elim
  · rename_i t x y ho
    split at h
    · rename_i T p cs hT hx hcs
      obtain ⟨hT⟩ := tyX_facts (G.ok _ _ hT)
      obtain ⟨c', w', objs', h1, h2, h3, h4⟩ := run_storeX (P := G.P) hT hr.objs h (one_of hr hx) (cells_of hcs (hr.eval y))
      exact wp_skipped (by simp only [execOp, ho, Sem.run_bind, h1, Result.andThen_ok, Sem.run_pure]) (hk _ _ ⟨c', objs', .un, h2, h3, trivial, h4⟩)
    · exact h.elim
  · rename_i op t x y yt ho
    split at h
    · rename_i p hx hy
      obtain ⟨hsl, h⟩ := chkP_iff.1 h
      obtain ⟨e, hu⟩ := isSliceX_und G t hsl
      obtain ⟨z, r, h1, h2, h3⟩ := run_nilX (P := G.P) (t := t) (xo := x) (yo := y) hu h (one_of hr hx) (show _ = _ from one_of hr hy)
      replace h1 := h1 w
      exact fin2 (by simp only [execOp, ho]; rw [Sem.run_bind, h1]; rfl) h2 h3
    · rename_i p q hx hy
      obtain ⟨z, r, h1, h2, h3⟩ := run_binX (P := G.P) (t := t) (xo := x) (yo := y) (isBoolX_und G t) h (one_of hr hx) (one_of hr hy)
      replace h1 := h1 w
      exact fin2 (by simp only [execOp, ho]; rw [Sem.run_bind, h1]; rfl) h2 h3
    · exact h.elim
  · rename_i op t x ho
    split at h
    · rename_i p hx
      obtain ⟨z, r, h1, h2, h3⟩ := run_unX (P := G.P) h (one_of hr hx)
      replace h1 := h1 w
      exact fin2 (by simp only [execOp, ho, Sem.run_bind, h1, Result.andThen_ok, Sem.run_pure]) h2 h3
    · exact h.elim
  · rename_i src dst x ho
    split at h
    · rename_i S T q n hS hT hx
      obtain ⟨hS⟩ := tyX_facts (G.ok _ _ hS)
      obtain ⟨hT⟩ := tyX_facts (G.ok _ _ hT)
      split at h
      · rename_i kd hk'
        have hv := Rep.v_inv (one_of hr hx)
        have hrun := run_convert_ints (P := G.P) w src dst q kd n hS.und (und_of_kind_int hT hk')
        exact fin2 (z := .d (.v (.int kd (kd.wrap n)))) (by simp only [execOp, ho, hv, Sem.run_bind, hrun, Result.andThen_ok, Sem.run_pure]) (Rep.v _ rfl) h
      · exact h.elim
    · exact h.elim
  · rename_i t x f ho
    split at h
    · rename_i T p hT hx
      obtain ⟨hT⟩ := tyX_facts (G.ok _ _ hT)
      obtain ⟨v, z, h1, h2, h3⟩ := run_fieldX (P := G.P) hT h (one_of hr hx)
      replace h1 := h1 w (SameOld.refl w)
      exact fin2 (by simp only [execOp, ho, Sem.run_bind, h1, Result.andThen_ok, Sem.run_pure]) h2 h3
    · exact h.elim
  · rename_i t x i ho
    split at h
    · rename_i T p j hT hx hi
      obtain ⟨hT⟩ := tyX_facts (G.ok _ _ hT)
      split at h
      · rename_i e hk'
        split at h
        · rename_i E hE
          obtain ⟨hE⟩ := tyX_facts (G.ok _ _ hE)
          obtain ⟨r, z, h1, h2, h3⟩ := run_indexX (P := G.P) hT hk' hE (chkP_iff.1 h).2 (chkP_iff.1 h).1 (one_of hr hx) (one_of hr hi)
          replace h1 := h1 w (SameOld.refl w)
          exact fin2 (by simp only [execOp, ho, Sem.run_bind, h1, Result.andThen_ok, Sem.run_pure]) h2 h3
        · exact h.elim
      · rename_i n e hk'
        split at h
        · rename_i E hE
          obtain ⟨hE⟩ := tyX_facts (G.ok _ _ hE)
          obtain ⟨r, z, h1, h2, h3⟩ := run_indexX_array (P := G.P) hT hk' hE h (one_of hr hx) (one_of hr hi)
          replace h1 := h1 w (SameOld.refl w)
          exact fin2 (by simp only [execOp, ho, Sem.run_bind, h1, Result.andThen_ok, Sem.run_pure]) h2 h3
        · exact h.elim
      · exact h.elim
    · exact h.elim
  · rename_i t x f ho
    split at h
    · rename_i cs off T hx hoff
      obtain ⟨fields, fd, hu, hf, rfl, ⟨hT⟩⟩ := fieldAt_facts hoff
      obtain ⟨vs, e1, e2, e3⟩ := one_of hr hx
      unfold takeX at h
      split at h
      · rename_i hg
        rw [chkP_iff] at h
        obtain ⟨hlen, h⟩ := h
        have hrun := run_field_agg hu hf hT hg (vs := vs) w
        refine fin (v := .agg (vs.extract fd.offset (fd.offset + T.size))) (by simp only [execOp, ho, e1, Sem.run_bind, hrun, Result.andThen_ok, Sem.run_pure]) (.same hr.objs (sv := .one (.agg _)) ⟨_, rfl, ?_, fun i y hy => ?_⟩ h)
        · simp [e2]; omega
        · rw [List.getElem?_take] at hy
          split at hy
          · rename_i hi
            rw [List.getElem?_drop] at hy
            obtain ⟨u, g1, g2⟩ := e3 _ _ hy
            refine ⟨u, ?_, g2⟩
            have := (Array.getElem?_eq_some_iff.1 g1)
            rw [Array.getElem?_extract, if_pos (by omega)]
            exact g1
          · cases hy
      · rename_i hg
        split at h
        · rename_i y hy
          obtain ⟨u, g1, g2⟩ := e3 _ _ hy
          have hrun := run_field_one hu hf hT (by simpa using hg) g1 w
          exact fin2 (by simp only [execOp, ho, e1, Sem.run_bind, hrun, Result.andThen_ok, Sem.run_pure]) g2 h
        · exact h.elim
    · exact h.elim
  · rename_i t x i ho
    split at h
    · rename_i T cs n hT hx hi
      obtain ⟨hT⟩ := tyX_facts (G.ok _ _ hT)
      split at h
      · rename_i len e hk'
        split at h
        · rename_i E hE
          obtain ⟨hE⟩ := tyX_facts (G.ok _ _ hE)
          split at h
          · rename_i ik hek
            replace h := chkP_iff.1 h
            obtain ⟨hs, h0, h1, h⟩ := h
            rw [fNat_eq] at h
            split at h
            · rename_i y hy
              obtain ⟨vs, e1, _, e3⟩ := one_of hr hx
              obtain ⟨u, g1, g2⟩ := e3 _ _ hy
              have e4 := Rep.v_inv (one_of hr hi)
              have hrun := run_index_arr (und_of_kind_array hT hk') hE hek hs h0 h1 g1 w
              exact fin2 (by simp only [execOp, ho, e1, e4, Sem.run_bind, hrun, Result.andThen_ok, Sem.run_pure]) g2 h
            · exact h.elim
          · exact h.elim
        · exact h.elim
      · exact h.elim
    · exact h.elim
  · rename_i t x lo hi mx ho
    split at h
    · rename_i T p lo' hi' mx' hT hx hlo hhi hmx
      obtain ⟨hT⟩ := tyX_facts (G.ok _ _ hT)
      split at h
      · rename_i e hk'
        split at h
        · rename_i E hE
          obtain ⟨hE⟩ := tyX_facts (G.ok _ _ hE)
          obtain ⟨r, z, h1, h2, h3⟩ := run_sliceX (P := G.P) (und_of_kind_slice hT hk') hE (optInt_of hr hlo) (optInt_of hr hhi) (optInt_of hr hmx) (chkP_iff.1 h).2 (one_of hr hx)
          replace h1 := h1 w
          exact fin2 (by simp only [execOp, ho, Sem.run_bind, h1, Result.andThen_ok, Sem.run_pure]) h2 h3
        · exact h.elim
      · rename_i hk'
        obtain ⟨r, z, h1, h2, h3⟩ := run_strSliceX (P := G.P) (und_of_kind_str hT hk') (optInt_of hr hlo) (optInt_of hr hhi) (optInt_of hr hmx) h (one_of hr hx)
        replace h1 := h1 w
        exact fin2 (by simp only [execOp, ho, Sem.run_bind, h1, Result.andThen_ok, Sem.run_pure]) h2 h3
      · rename_i n e hk'
        split at h
        · rename_i E hE
          obtain ⟨hE⟩ := tyX_facts (G.ok _ _ hE)
          obtain ⟨r, z, h1, h2, h3⟩ := run_sliceArrX (P := G.P) (und_of_kind_array hT hk') hE (optInt_of hr hlo) (optInt_of hr hhi) (optInt_of hr hmx) hr.objs h (one_of hr hx)
          replace h1 := h1 w
          exact fin2 (by simp only [execOp, ho, Sem.run_bind, h1, Result.andThen_ok, Sem.run_pure]) h2 h3
        · exact h.elim
      · exact h.elim
    · exact h.elim
  · rename_i t i ho
    split at h
    · rename_i vs ht
      split at h
      · rename_i v hv
        have h1 := hr.eval t
        rw [ht] at h1
        obtain ⟨us, e1, e2, e3⟩ := h1
        obtain ⟨u, g1, g2⟩ := e3 _ _ hv
        exact fin (by simp only [execOp, ho, e1, Instr.extract, g1, Sem.run_bind, Result.andThen_ok, Sem.run_pure]) (.same hr.objs (sv := .one v) g2 h)
      · exact h.elim
    · exact h.elim
  · rename_i t ho
    split at h
    · rename_i n E hm
      obtain ⟨c', w', h1, h2, h3, h4⟩ := run_makeMap (P := G.P) (t := t) hr.objs n
      exact fin (by simp only [execOp, ho, Option.map_none, Sem.run_bind, h1, Result.andThen_ok, Sem.run_pure]) ⟨c', _, .one (.c (.mp st.objs.length 0)), h2, h3, h4, h⟩
    · exact h.elim
  · rename_i t x ix ok ho
    split at h
    · rename_i n E y z hm hx hi
      obtain ⟨M⟩ := mapTy_facts hm
      obtain ⟨r, sv, h1, h2, h3⟩ := run_lookupX (P := G.P) M hr.objs h (one_of hr hx) (one_of hr hi)
      exact fin (by simp only [execOp, ho, Sem.run_bind, h1, Result.andThen_ok, Sem.run_pure]) (.same hr.objs h2 h3)
    · exact h.elim
  · rename_i t x ix y ho
    split at h
    · rename_i n E p q v hm hx hi hy
      obtain ⟨M⟩ := mapTy_facts hm
      obtain ⟨c', w', objs', h1, h2, h3, h4⟩ := run_updX (P := G.P) M hr.objs h (one_of hr hx) (one_of hr hi) (one_of hr hy)
      exact wp_skipped (by simp only [execOp, ho, Sem.run_bind, h1, Result.andThen_ok, Sem.run_pure]) (hk _ _ ⟨c', objs', .un, h2, h3, trivial, h4⟩)
    · exact h.elim
  · rename_i f fst caps ho
    split at h
    · rename_i cs hcs
      replace h := chkP_iff.1 h; obtain ⟨hf0, h⟩ := h
      obtain ⟨k1, k2⟩ := caps_of hr hcs
      have hfst : fst = #[] := Array.eq_empty_of_size_eq_zero hf0
      refine fin2 (z := .fn f cs) (by simp [execOp, ho, Instr.makeFunc, hfst]) ⟨caps.map a.eval, rfl, by simp; simpa using k1, fun i o ver off hi => ?_⟩ h
      obtain ⟨u, m1, m2⟩ := k2 i o ver off hi
      exact ⟨u, by simpa using m1, m2⟩
    · exact h.elim
  · rename_i cl ho
    unfold callOpX at h
    split at h
    · rename_i args hargs
      obtain ⟨a1, a2⟩ := args_of hr hargs
      have hsz : (cl.args.map a.eval).size = args.length := by simp; simpa using a1
      have hval : ∀ (i : Nat) x, args[i]? = some x → ∃ u, (cl.args.map a.eval)[i]? = some u ∧ RelV1 c st.objs w x u := by
        intro i x hx
        obtain ⟨u, m1, m2⟩ := a2 i x hx
        exact ⟨u, by simpa using m1, m2⟩
      split at h
      · rename_i b hb
        obtain ⟨v, w', h1, h2⟩ := builtinX_sound (G := G) (ty := o.type) (consts := cl.args.map fun | .const _ => true | _ => false) hr.objs h hsz hval
        exact fin (by simp only [execOp, ho, resolve, hb, Sem.run_bind, Sem.run_pure, Result.andThen_ok, invoke]; exact h1) h2
      · rename_i fo hcal
        split at h
        · rename_i f caps hf
          obtain ⟨vs, e1, e2, e3⟩ := one_of hr hf
          obtain ⟨hent, hcall⟩ := h
          have hc := hcall c w ((cl.args.map a.eval) ++ vs) hr.objs (by simp [e2]; simpa using hsz) (by
            intro i x hx
            by_cases hi : i < args.length
            · rw [List.getElem?_append_left hi] at hx
              rw [Array.getElem?_append_left (by omega)]
              exact hval i x hx
            · rw [List.getElem?_append_right (by omega)] at hx
              rw [Array.getElem?_append_right (by omega), hsz]
              simp only [List.getElem?_map, Option.map_eq_some_iff] at hx
              obtain ⟨⟨o', ver, off⟩, hx1, rfl⟩ := hx
              obtain ⟨u, m1, m2⟩ := e3 _ _ _ _ hx1
              exact ⟨u, m1, m2⟩)
          have hrun : (execOp a.eval o).run G.P w = .ok (.enter f ((cl.args.map a.eval) ++ vs)) w := by
            simp only [execOp, ho, resolve, hcal, e1, Deferred.ofValue, Sem.run_bind, Sem.run_pure, Result.andThen_ok, invoke]
            have := calls_enter (P := G.P) (args := (cl.args.map a.eval) ++ vs) (w := w) hent
            simpa using this
          unfold Oper.wp
          rw [hrun]
          refine hc.mono ?_
          rintro e w' ⟨v, c', objs', sv, rfl, k1, k2, k3, k4⟩
          exact hk v w' ⟨c', objs', sv, k1, k2, k3, k4⟩
        · exact h.elim
      · exact h.elim
    · exact h.elim
  · exact h.elim

end Go.Proofs.Ytmfdkjjhdjkgpaa

namespace Go.Proofs.Ytmfdkjjhdjkgpaa
open Go Go.RowKit

theorem quiet_sound {G : Gen} {o : Oper} {st : St} {c : Ctx} {a : Act} {w : World} {k : SV → Objs → Prop} (h : opX G o st k) (hq : quietOp o = true) (hr : Rel c st a w) :
    ∃ v sv, (∀ w', SameOld w w' → (execOp a.eval o).run G.P w' = .ok (.value v) w') ∧ RelSV c st.objs w sv v ∧ k sv st.objs := by
  unfold quietOp at hq
  split at hq
  · rename_i x ho
    simp only [opX.eq_def, ho] at h
    exact ⟨_, _, fun w' _ => by simp [execOp, ho], hr.eval x, h⟩
  · rename_i x ho
    simp only [opX.eq_def, ho] at h
    exact ⟨_, _, fun w' _ => by simp [execOp, ho], hr.eval x, h⟩
  · rename_i cc x y ho
    simp only [opX.eq_def, ho] at h
    split at h
    · rename_i t hc
      have hcv := Rep.v_inv (one_of hr hc)
      cases t with
      | true => exact ⟨_, _, fun w' _ => by simp [execOp, ho, hcv, asBool], hr.eval x, Br.yes h rfl⟩
      | false => exact ⟨_, _, fun w' _ => by simp [execOp, ho, hcv, asBool], hr.eval y, Br.no h rfl⟩
    · exact h.elim
  · rename_i x ho
    simp only [opX.eq_def, ho] at h
    split at h
    · rename_i o' ver off hx
      obtain ⟨hal, h⟩ := chkP_iff.1 h
      have h1 := one_of hr hx
      obtain ⟨b, base, _, hv⟩ := h1.2.2 (alive_iff hal)
      exact ⟨a.eval x, .one (.c (.ptr o' ver off)), fun w' _ => by simp [execOp, ho, hv], h1, h⟩
    · exact h.elim
  · rename_i t x ho
    simp only [opX.eq_def, ho] at h
    split at h
    · rename_i T p hT hx
      obtain ⟨hT⟩ := tyX_facts (G.ok _ _ hT)
      obtain ⟨v, z, h1, h2, h3⟩ := run_loadX (P := G.P) hT hr.objs h (one_of hr hx)
      exact ⟨v, .one z, fun w' hs => by simp only [execOp, ho, Sem.run_bind, h1 w' hs, Result.andThen_ok, Sem.run_pure], h2, h3⟩
    · exact h.elim
  · rename_i op t x y yt ho
    simp only [opX.eq_def, ho] at h
    split at h
    · rename_i p hx hy
      obtain ⟨hsl, h⟩ := chkP_iff.1 h
      obtain ⟨e, hu⟩ := isSliceX_und G t hsl
      obtain ⟨z, r, h1, h2, h3⟩ := run_nilX (P := G.P) (t := t) (xo := x) (yo := y) hu h (one_of hr hx) (show _ = _ from one_of hr hy)
      exact ⟨r, .one (.c z), fun w' _ => by simp only [execOp, ho]; rw [Sem.run_bind, h1 w']; rfl, h2, h3⟩
    · rename_i p q hx hy
      obtain ⟨z, r, h1, h2, h3⟩ := run_binX (P := G.P) (t := t) (xo := x) (yo := y) (isBoolX_und G t) h (one_of hr hx) (one_of hr hy)
      exact ⟨r, .one (.c z), fun w' _ => by simp only [execOp, ho]; rw [Sem.run_bind, h1 w']; rfl, h2, h3⟩
    · exact h.elim
  · rename_i op t x ho
    simp only [opX.eq_def, ho] at h
    split at h
    · rename_i p hx
      obtain ⟨z, r, h1, h2, h3⟩ := run_unX (P := G.P) h (one_of hr hx)
      exact ⟨r, .one (.c z), fun w' _ => by simp only [execOp, ho, Sem.run_bind, h1 w', Result.andThen_ok, Sem.run_pure], h2, h3⟩
    · exact h.elim
  · rename_i t x f ho
    simp only [opX.eq_def, ho] at h
    split at h
    · rename_i T p hT hx
      obtain ⟨hT⟩ := tyX_facts (G.ok _ _ hT)
      obtain ⟨v, z, h1, h2, h3⟩ := run_fieldX (P := G.P) hT h (one_of hr hx)
      exact ⟨v, .one (.c z), fun w' hs => by simp only [execOp, ho, Sem.run_bind, h1 w' hs, Result.andThen_ok, Sem.run_pure], h2, h3⟩
    · exact h.elim
  · rename_i t x i ho
    simp only [opX.eq_def, ho] at h
    split at h
    · rename_i T p j hT hx hi
      obtain ⟨hT⟩ := tyX_facts (G.ok _ _ hT)
      split at h
      · rename_i e hk'
        split at h
        · rename_i E hE
          obtain ⟨hE⟩ := tyX_facts (G.ok _ _ hE)
          obtain ⟨r, z, h1, h2, h3⟩ := run_indexX (P := G.P) hT hk' hE (chkP_iff.1 h).2 (chkP_iff.1 h).1 (one_of hr hx) (one_of hr hi)
          exact ⟨r, .one (.c z), fun w' hs => by simp only [execOp, ho, Sem.run_bind, h1 w' hs, Result.andThen_ok, Sem.run_pure], h2, h3⟩
        · exact h.elim
      · rename_i n e hk'
        split at h
        · rename_i E hE
          obtain ⟨hE⟩ := tyX_facts (G.ok _ _ hE)
          obtain ⟨r, z, h1, h2, h3⟩ := run_indexX_array (P := G.P) hT hk' hE h (one_of hr hx) (one_of hr hi)
          exact ⟨r, .one (.c z), fun w' hs => by simp only [execOp, ho, Sem.run_bind, h1 w' hs, Result.andThen_ok, Sem.run_pure], h2, h3⟩
        · exact h.elim
      · exact h.elim
    · exact h.elim
  · rename_i t x lo hi mx ho
    simp only [opX.eq_def, ho] at h
    split at h
    · rename_i T p lo' hi' mx' hT hx hlo hhi hmx
      obtain ⟨hT⟩ := tyX_facts (G.ok _ _ hT)
      split at h
      · rename_i e hk'
        split at h
        · rename_i E hE
          obtain ⟨hE⟩ := tyX_facts (G.ok _ _ hE)
          obtain ⟨r, z, h1, h2, h3⟩ := run_sliceX (P := G.P) (und_of_kind_slice hT hk') hE (optInt_of hr hlo) (optInt_of hr hhi) (optInt_of hr hmx) (chkP_iff.1 h).2 (one_of hr hx)
          exact ⟨r, .one (.c z), fun w' _ => by simp only [execOp, ho, Sem.run_bind, h1 w', Result.andThen_ok, Sem.run_pure], h2, h3⟩
        · exact h.elim
      · rename_i hk'
        obtain ⟨r, z, h1, h2, h3⟩ := run_strSliceX (P := G.P) (und_of_kind_str hT hk') (optInt_of hr hlo) (optInt_of hr hhi) (optInt_of hr hmx) h (one_of hr hx)
        exact ⟨r, .one (.c z), fun w' _ => by simp only [execOp, ho, Sem.run_bind, h1 w', Result.andThen_ok, Sem.run_pure], h2, h3⟩
      · rename_i n e hk'
        split at h
        · rename_i E hE
          obtain ⟨hE⟩ := tyX_facts (G.ok _ _ hE)
          obtain ⟨r, z, h1, h2, h3⟩ := run_sliceArrX (P := G.P) (und_of_kind_array hT hk') hE (optInt_of hr hlo) (optInt_of hr hhi) (optInt_of hr hmx) hr.objs h (one_of hr hx)
          exact ⟨r, .one (.c z), fun w' _ => by simp only [execOp, ho, Sem.run_bind, h1 w', Result.andThen_ok, Sem.run_pure], h2, h3⟩
        · exact h.elim
      · exact h.elim
    · exact h.elim
  · rename_i fo fst caps ho
    cases fo with
    | func f =>
      simp only [opX.eq_def, ho] at h
      split at h
      · rename_i cs hcs
        replace h := chkP_iff.1 h; obtain ⟨hf0, h⟩ := h
        obtain ⟨k1, k2⟩ := caps_of hr hcs
        have hfst : fst = #[] := Array.eq_empty_of_size_eq_zero hf0
        refine ⟨_, .one (.c (.fn f cs)), fun w' hs => by simp [execOp, ho, Instr.makeFunc, hfst], ⟨caps.map a.eval, rfl, by simp; simpa using k1, fun i o ver off hi => ?_⟩, h⟩
        obtain ⟨u, m1, m2⟩ := k2 i o ver off hi
        exact ⟨u, by simpa using m1, m2⟩
      · exact h.elim
    | _ => simp only [opX.eq_def, ho] at h
  · rename_i cl ho
    split at hq
    · rename_i hb
      simp only [opX.eq_def, ho] at h
      unfold callOpX at h
      split at h
      · rename_i args hargs
        obtain ⟨a1, a2⟩ := args_of hr hargs
        simp only [hb] at h
        unfold builtinX at h
        split at h
        · rename_i t r x _ hts
          split at h
          · rename_i T hT
            obtain ⟨hT⟩ := tyX_facts (G.ok _ _ hT)
            obtain ⟨u, h1, h2⟩ := a2 0 _ rfl
            have hvals : cl.args.map a.eval = #[u] := by
              apply Array.ext_getElem?
              intro i
              cases i with
              | zero => simpa using h1
              | succ i => rw [Array.getElem?_eq_none (by simp at a1 ⊢; omega), Array.getElem?_eq_none (by simp)]
            have ht0 : cl.argTypes[0]? = some t := by rw [← Array.getElem?_toList, hts]; rfl
            obtain ⟨v, z, k1, k2, k3⟩ := run_lenX (P := G.P) hT cl.argTypes ht0 o.type h h2
            refine ⟨v, .one (.c z), fun w' hs => ?_, k2, k3⟩
            simp only [execOp, ho, resolve, hb, Sem.run_bind, Sem.run_pure, Result.andThen_ok, invoke, hvals]
            simp [builtin, k1 w' hs]
          · exact h.elim
        all_goals simp_all
      · exact h.elim
    · cases hq
  · cases hq

theorem callPX_sound {G : Gen} {o : Oper} {st : St} {c : Ctx} {a : Act} {w : World} {k : SV → Objs → Prop} {next : Act → World → Prop} {Q : Exit → Act → World → Prop}
    (h : callPX G o st k) (hr : Rel c st a w) (hk : ∀ v w' c' objs' sv, SameOld w w' → Ext st.objs.length c st.objs w c' objs' w' → RelObjs c' objs' w' → RelSV c' objs' w' sv v → k sv objs' → next (a.put o.dst v) w') : o.wp G.P a w next Q := by
  unfold callPX at h
  split at h
  · rename_i cl ho
    split at h
    · rename_i args hargs
      obtain ⟨a1, a2⟩ := args_of hr hargs
      have hsz : (cl.args.map a.eval).size = args.length := by simp; simpa using a1
      have hval : ∀ (i : Nat) x, args[i]? = some x → ∃ u, (cl.args.map a.eval)[i]? = some u ∧ RelV1 c st.objs w x u := by
        intro i x hx
        obtain ⟨u, m1, m2⟩ := a2 i x hx
        exact ⟨u, by simpa using m1, m2⟩
      split at h
      · rename_i fo hcal
        split at h
        · rename_i f caps hf
          obtain ⟨vs, e1, e2, e3⟩ := one_of hr hf
          obtain ⟨hent, hcall⟩ := h
          have hc := hcall c w ((cl.args.map a.eval) ++ vs) hr.objs (by simp [e2]; simpa using hsz) (by
            intro i x hx
            by_cases hi : i < args.length
            · rw [List.getElem?_append_left hi] at hx
              rw [Array.getElem?_append_left (by omega)]
              exact hval i x hx
            · rw [List.getElem?_append_right (by omega)] at hx
              rw [Array.getElem?_append_right (by omega), hsz]
              simp only [List.getElem?_map, Option.map_eq_some_iff] at hx
              obtain ⟨⟨o', ver, off⟩, hx1, rfl⟩ := hx
              obtain ⟨u, m1, m2⟩ := e3 _ _ _ _ hx1
              exact ⟨u, m1, m2⟩)
          have hrun : (execOp a.eval o).run G.P w = .ok (.enter f ((cl.args.map a.eval) ++ vs)) w := by
            simp only [execOp, ho, resolve, hcal, e1, Deferred.ofValue, Sem.run_bind, Sem.run_pure, Result.andThen_ok, invoke]
            have := calls_enter (P := G.P) (args := (cl.args.map a.eval) ++ vs) (w := w) hent
            simpa using this
          unfold Oper.wp
          rw [hrun]
          refine hc.mono ?_
          rintro e w' ⟨v, c', objs', sv, rfl, k0, k1, k2, k3, k4⟩
          exact hk v w' c' objs' sv k0 k1 k2 k3 k4
        · exact h.elim
      · exact h.elim
    · exact h.elim
  · exact h.elim

theorem Rel.put' {c c' : Ctx} {env : List (Nat × SV)} {objs : Objs} {n : Nat} {a : Act} {w w' : World} {objs' : Objs} {sv : SV} {v : Value} {dst : Option Tmp} (hr : Rel c ⟨env, objs, n⟩ a w) (hE : Ext objs.length c objs w c' objs' w') (hr' : RelObjs c' objs' w')
    (hv : RelSV c' objs' w' sv v) (hd : dstOK dst n = true) : Rel c' ⟨putE dst sv env, objs', n⟩ (a.put dst v) w' := by
  cases dst with
  | none =>
    refine ⟨hr', fun t ht => ?_, hr.size, hr.defers⟩
    obtain ⟨u, h1, h2⟩ := hr.env t ht
    exact ⟨u, h1, hE.relSV (Nat.le_refl _) hr.objs h2⟩
  | some d =>
    have hd' : d < n := by simpa [dstOK, Nat.blt_eq] using hd
    refine ⟨hr', fun t ht => ?_, by simpa [Act.put] using hr.size, hr.defers⟩
    simp only [putE, getE, Act.put]
    by_cases e : t = d
    · subst e
      rw [if_pos rfl]
      have hlt : t < a.tmps.size := by rw [hr.size]; exact hd'
      exact ⟨v, by simp [hlt], hv⟩
    · rw [if_neg e]
      obtain ⟨u, h1, h2⟩ := hr.env t ht
      refine ⟨u, ?_, hE.relSV (Nat.le_refl _) hr.objs h2⟩
      rw [Array.getElem?_setIfInBounds_ne (Ne.symm e)]
      exact h1

theorem relSV_undef {c : Ctx} {objs : Objs} {w : World} : RelSV c objs w (.tup []) undef := ⟨#[], rfl, rfl, fun i x h => by simp at h⟩

theorem und_at {c : Ctx} {env : List (Nat × SV)} {objs : Objs} {n d : Nat} {a : Act} {w : World} (hr : Rel c ⟨env, objs, n⟩ a w) (h : isUnd (if d < n then getE env d else .un) = true) : d < n ∧ a.tmps[d]? = some undef := by
  have hlt : d < n := by
    by_cases hlt : d < n
    · exact hlt
    · rw [if_neg hlt] at h; cases h
  rw [if_pos hlt] at h
  obtain ⟨u, h1, h2⟩ := hr.env d hlt
  dsimp only at h2
  unfold isUnd at h
  split at h
  · rename_i he
    rw [he] at h2
    obtain ⟨vs, rfl, h3, _⟩ := h2
    have : vs = #[] := Array.eq_empty_of_size_eq_zero h3
    subst this
    exact ⟨hlt, h1⟩
  · cases h

theorem grdX_sound {ops : Array Oper} {o : Oper} {env : List (Nat × SV)} {objs : Objs} {n : Nat} {run skip : List (Nat × SV) → Prop} (h : grdX ops.toList o env n run skip) {c : Ctx} {a : Act} {w : World}
    (hr : Rel c ⟨env, objs, n⟩ a w) (hdst : dstOK o.dst n = true) :
    (Region.wanted o (yielded ops a.tmps) = true ∧ ∃ env1, Rel c ⟨env1, objs, n⟩ a w ∧ run env1) ∨
    (Region.wanted o (yielded ops a.tmps) = false ∧ ∃ env2, Rel c ⟨putE o.dst (.tup []) env2, objs, n⟩ (a.put o.dst undef) w ∧ skip env2) := by
  unfold grdX at h
  split at h
  · rename_i hg
    exact .inl ⟨by simp [Region.wanted, hg], env, hr, h⟩
  · rename_i j want hg
    split at h
    · rename_i d hd
      split at h
      · rename_i b hb
        have hbv : (if d < n then getE env d else .un) = .one (.c (.d (.v (.bool b)))) := by
          unfold boolOfSV at hb
          split at hb
          · rename_i heq; rw [heq]; rw [Option.some.inj hb]
          · cases hb
        have hlt : d < n := by
          by_cases hlt : d < n
          · exact hlt
          · rw [if_neg hlt] at hbv; cases hbv
        rw [if_pos hlt] at hbv
        obtain ⟨u, hu1, hu2⟩ := hr.env d hlt
        dsimp only at hu2
        rw [hbv] at hu2
        obtain rfl := Rep.v_inv hu2
        have hy : yielded ops a.tmps j = some b := by
          unfold yielded
          rw [Array.getElem?_toList] at hd
          rw [hd]
          simp [hu1]
        have know : ∀ z : Bool, b = z → Rel c ⟨(d, .one (.c (vB z))) :: env, objs, n⟩ a w := by
          intro z hz
          subst hz
          refine ⟨hr.objs, fun t ht => ?_, hr.size, hr.defers⟩
          simp only [getE]
          by_cases e : t = d
          · subst e
            rw [if_pos rfl]
            exact ⟨_, hu1, relV (objs := objs) _ rfl⟩
          · rw [if_neg e]
            exact hr.env t ht
        by_cases hw : b = want
        · exact .inl ⟨by simp [Region.wanted, hg, hy, hw], _, know want hw, Gd.yes h hw⟩
        · have hw2 : b = !want := by cases b <;> cases want <;> simp_all
          refine .inr ⟨by simp [Region.wanted, hg, hy, hw], _, ?_, Gd.no h hw⟩
          exact (know (!want) hw2).put' (dst := o.dst) (sv := .tup []) (v := undef) (Ext.refl _ c objs w) hr.objs relSV_undef hdst
      · split at h
        · rename_i hund
          obtain ⟨hlt, hu⟩ := und_at hr hund
          have hy : yielded ops a.tmps j = none := by
            unfold yielded
            rw [Array.getElem?_toList] at hd
            rw [hd]
            simp [hu, undef]
          refine .inr ⟨by simp [Region.wanted, hg, hy], _, ?_, h⟩
          exact hr.put' (dst := o.dst) (sv := .tup []) (v := undef) (Ext.refl _ c objs w) hr.objs relSV_undef hdst
        · exact h.elim
    · exact h.elim

theorem wpAnyH_weak {P : Program} {md : Region.Mode} {ops : Array Oper} {Q : Exit → Act → World → Prop} {S S' : World → Prop} (hS : ∀ w, S' w → S w) : ∀ (fuel : Nat) (listed : Array Bool) (a : Act) (w : World),
    wpAnyH P md ops Q S' fuel listed a w → wpAnyH P md ops Q S fuel listed a w
  | 0, _, _, _, h => h
  | fuel + 1, _, _, _, h => ⟨h.1, fun i hi => wpOp_mono (fun a' w' h' => ⟨hS _ h'.1, wpAnyH_weak hS fuel _ a' w' h'.2⟩) (h.2 i hi)⟩

theorem runP_sound {G : Gen} {ops : Array Oper} {Q : Exit → Act → World → Prop} (hQ : ∀ c a w, ¬ Q (.panic c) a w) (hs : Region.noSelect ops = true) : ∀ (p : Plan) (fuel : Nat) (listed : Array Bool) (st : St) (k : St → Prop), planOK ops fuel listed p = true → runP G ops.toList p st k →
    ∀ (c : Ctx) (a : Act) (w : World), Rel c st a w → (∀ st' c' a' w', Ext st.objs.length c st.objs w c' st'.objs w' → Rel c' st' a' w' → k st' → Q .normal a' w') → wpAnyH G.P .any ops Q (SameOld w) fuel listed a w := by
  -- one loud operation
  have loud : ∀ (i : Nat) (p : Plan), (∀ (fuel : Nat) (listed : Array Bool) (st : St) (k : St → Prop), planOK ops fuel listed p = true → runP G ops.toList p st k →
      ∀ (c : Ctx) (a : Act) (w : World), Rel c st a w → (∀ st' c' a' w', Ext st.objs.length c st.objs w c' st'.objs w' → Rel c' st' a' w' → k st' → Q .normal a' w') → wpAnyH G.P .any ops Q (SameOld w) fuel listed a w) →
      ∀ (fuel : Nat) (listed : Array Bool) (env : List (Nat × SV)) (objs : Objs) (n : Nat) (k : St → Prop), planOK ops fuel (listed.setIfInBounds i true) p = true →
      (match getO ops.toList i with
        | some o => chkP (dstOK o.dst n = true) <|
            grdX ops.toList o env n (fun env => callPX G o ⟨env, objs, n⟩ fun v objs => handX o env n v objs fun st => runP G ops.toList p st k) (fun env => runP G ops.toList p ⟨putE o.dst (.tup []) env, objs, n⟩ k)
        | none => False) →
      ∀ (c : Ctx) (a : Act) (w : World), Rel c ⟨env, objs, n⟩ a w → (∀ st' c' a' w', Ext objs.length c objs w c' st'.objs w' → Rel c' st' a' w' → k st' → Q .normal a' w') →
      wpOp G.P ops Q i (fun a' w' => SameOld w w' ∧ wpAnyH G.P .any ops Q (SameOld w) fuel (listed.setIfInBounds i true) a' w') a w := by
    intro i p ih fuel listed env objs n k hp h c a w hr hk
    split at h
    · rename_i o hi
      rw [getO_eq, Array.getElem?_toList] at hi
      replace h := chkP_iff.1 h
      obtain ⟨hdst, h⟩ := h
      unfold wpOp
      simp only [hi]
      rcases grdX_sound h hr hdst with ⟨hw, env1, hr1, hrun⟩ | ⟨hw, env2, hr2, hskip⟩
      · rw [if_pos hw]
        refine .inl (callPX_sound hrun hr1 ?_)
        intro v w' c' objs' sv hso hE hr' hv hkk
        rw [handX_eq] at hkk
        exact ⟨hso, wpAnyH_weak (fun w'' h'' => hso.trans h'') _ _ _ _ (ih fuel _ _ k hp hkk c' _ w' (hr1.put' hE hr' hv hdst) (fun st' c'' a' w'' hE' hr'' hkkk => hk st' c'' a' w'' (hE.trans hE' hE.len0) hr'' hkkk))⟩
      · rw [if_neg (by rw [hw]; exact Bool.false_ne_true)]
        exact ⟨SameOld.refl w, ih fuel _ _ k hp hskip c _ w hr2 (fun st' c' a' w' hE hr' hkkk => hk st' c' a' w' hE hr' hkkk)⟩
    · exact h.elim
  intro p
  induction p with
  | done =>
    intro fuel listed st k hp h c a w hr hk
    have hrd : Region.ready .any ops listed = [] := by cases fuel <;> simpa [planOK] using hp
    exact wpAnyH_done hrd (hk st c a w (Ext.refl _ _ _ _) hr h) _
  | take i p ih =>
    rintro fuel listed ⟨env, objs, n⟩ k hp h c a w hr hk
    cases fuel with
    | zero => simp [planOK] at hp
    | succ fuel =>
      simp only [planOK, Bool.and_eq_true] at hp
      obtain ⟨⟨hf, hc⟩, hp⟩ := hp
      unfold runP at h
      split at h
      · rename_i o hi
        rw [getO_eq, Array.getElem?_toList] at hi
        replace h := chkP_iff.1 h
        obtain ⟨⟨hdst, hq⟩, h⟩ := h
        rcases grdX_sound h hr hdst with ⟨hw, env1, hr1, hrun⟩ | ⟨hw, env2, hr2, hskip⟩
        · obtain ⟨v, sv, h1, h2, h3⟩ := quiet_sound hrun hq hr1
          rw [handX_eq] at h3
          refine wpAnyH_take (v := v) hi hs hf hc (fun c a w hh => absurd hh (hQ c _ w)) (.inl ⟨hw, h1⟩) (SameOld.refl w) ?_
          exact ih fuel _ _ k hp h3 c _ w (hr1.put' (Ext.refl _ _ _ _) hr.objs h2 hdst) (fun st' c' a' w' hE hr' hkk => hk st' c' a' w' hE hr' hkk)
        · refine wpAnyH_take (v := undef) hi hs hf hc (fun c a w hh => absurd hh (hQ c _ w)) (.inr ⟨hw, rfl⟩) (SameOld.refl w) ?_
          exact ih fuel _ _ k hp hskip c _ w hr2 (fun st' c' a' w' hE hr' hkk => hk st' c' a' w' hE hr' hkk)
      · exact h.elim
  | one i p ih =>
    rintro fuel listed ⟨env, objs, n⟩ k hp h c a w hr hk
    cases fuel with
    | zero => simp [planOK] at hp
    | succ fuel =>
      simp only [planOK, Bool.and_eq_true, beq_iff_eq] at hp
      refine wpAnyH_all hp.1 (by simp) (fun j hj => ?_)
      obtain rfl := List.mem_singleton.1 hj
      unfold runP at h
      exact loud _ p ih fuel listed env objs n k hp.2 h c a w hr hk
  | two i p j q ih ihq =>
    rintro fuel listed ⟨env, objs, n⟩ k hp h c a w hr hk
    cases fuel with
    | zero => simp [planOK] at hp
    | succ fuel =>
      simp only [planOK, Bool.and_eq_true, beq_iff_eq] at hp
      obtain ⟨⟨hp1, hp2⟩, hp3⟩ := hp
      refine wpAnyH_all hp1 (by simp) (fun l hl => ?_)
      unfold runP at h
      rcases List.mem_cons.1 hl with rfl | hl
      · exact loud _ p ih fuel listed env objs n k hp2 h.1 c a w hr hk
      · obtain rfl := List.mem_singleton.1 hl
        exact loud _ q ihq fuel listed env objs n k hp3 h.2 c a w hr hk
  | three i p j q l r _ _ _ =>
    rintro fuel listed ⟨env, objs, n⟩ k hp h c a w hr hk
    exact h.elim

theorem pureF_sound {G : Gen} {o : Oper} {st : St} {c : Ctx} {a : Act} {w : World} {k : SV → Objs → Prop} (h : opX G o st k) (hq : pureF o = true) (hr : Rel c st a w) :
    ∃ v sv, (∀ w', (execOp a.eval o).run G.P w' = .ok (.value v) w') ∧ RelSV c st.objs w sv v ∧ k sv st.objs := by
  unfold pureF at hq
  split at hq
  · rename_i x ho
    simp only [opX.eq_def, ho] at h
    exact ⟨_, _, fun w' => by simp [execOp, ho], hr.eval x, h⟩
  · rename_i x ho
    simp only [opX.eq_def, ho] at h
    exact ⟨_, _, fun w' => by simp [execOp, ho], hr.eval x, h⟩
  · rename_i cc x y ho
    simp only [opX.eq_def, ho] at h
    split at h
    · rename_i t hc
      have hcv := Rep.v_inv (one_of hr hc)
      cases t with
      | true => exact ⟨_, _, fun w' => by simp [execOp, ho, hcv, asBool], hr.eval x, Br.yes h rfl⟩
      | false => exact ⟨_, _, fun w' => by simp [execOp, ho, hcv, asBool], hr.eval y, Br.no h rfl⟩
    · exact h.elim
  · rename_i x ho
    simp only [opX.eq_def, ho] at h
    split at h
    · rename_i o' ver off hx
      obtain ⟨hal, h⟩ := chkP_iff.1 h
      have h1 := one_of hr hx
      obtain ⟨b, base, _, hv⟩ := h1.2.2 (alive_iff hal)
      exact ⟨a.eval x, .one (.c (.ptr o' ver off)), fun w' => by simp [execOp, ho, hv], h1, h⟩
    · exact h.elim
  · rename_i op t x y yt ho
    simp only [opX.eq_def, ho] at h
    split at h
    · rename_i p hx hy
      obtain ⟨hsl, h⟩ := chkP_iff.1 h
      obtain ⟨e, hu⟩ := isSliceX_und G t hsl
      obtain ⟨z, r, h1, h2, h3⟩ := run_nilX (P := G.P) (t := t) (xo := x) (yo := y) hu h (one_of hr hx) (show _ = _ from one_of hr hy)
      exact ⟨r, .one (.c z), fun w' => by simp only [execOp, ho]; rw [Sem.run_bind, h1 w']; rfl, h2, h3⟩
    · rename_i p q hx hy
      obtain ⟨z, r, h1, h2, h3⟩ := run_binX (P := G.P) (t := t) (xo := x) (yo := y) (isBoolX_und G t) h (one_of hr hx) (one_of hr hy)
      exact ⟨r, .one (.c z), fun w' => by simp only [execOp, ho]; rw [Sem.run_bind, h1 w']; rfl, h2, h3⟩
    · exact h.elim
  · rename_i op t x ho
    simp only [opX.eq_def, ho] at h
    split at h
    · rename_i p hx
      obtain ⟨z, r, h1, h2, h3⟩ := run_unX (P := G.P) h (one_of hr hx)
      exact ⟨r, .one (.c z), fun w' => by simp only [execOp, ho, Sem.run_bind, h1 w', Result.andThen_ok, Sem.run_pure], h2, h3⟩
    · exact h.elim
  · rename_i t parts ho
    simp only [opX.eq_def, ho] at h
    split at h
    · rename_i T ps hT hps
      obtain ⟨hT⟩ := tyX_facts (G.ok _ _ hT)
      split at h
      · rename_i fs hk'
        split at h
        · rename_i cs hcs
          obtain ⟨cells, h1, h2⟩ := run_buildX (P := G.P) hT hk' (parts := parts.map fun (i, x) => (i, a.eval x)) hcs (by simpa using parts_of hr hps)
          exact ⟨_, .one (.agg cs), fun w' => by simp only [execOp, ho, Sem.run_bind, h1, Result.andThen_ok, Sem.run_pure], rel_agg h2, h⟩
        · exact h.elim
      · rename_i n e hk'
        split at h
        · rename_i E hE hpl
          obtain ⟨hE⟩ := tyX_facts (G.ok _ _ hE)
          obtain ⟨_, h2⟩ := run_build_arr (P := G.P) hT hk' hE (c := c) (objs := st.objs) (w := w) (parts := parts.map fun (i, x) => (i, a.eval x)) (by simpa using hpl)
          exact ⟨_, .one (.agg T.zero), fun w' => by
            obtain ⟨h1, _⟩ := run_build_arr (P := G.P) hT hk' hE (c := c) (objs := st.objs) (w := w') (parts := parts.map fun (i, x) => (i, a.eval x)) (by simpa using hpl)
            simp only [execOp, ho, Sem.run_bind, h1, Result.andThen_ok, Sem.run_pure], rel_agg h2, h⟩
        · exact h.elim
      · exact h.elim
    · exact h.elim
  · rename_i t x f ho
    simp only [opX.eq_def, ho] at h
    split at h
    · rename_i cs off T hx hoff
      obtain ⟨fields, fd, hu, hf, rfl, ⟨hT⟩⟩ := fieldAt_facts hoff
      obtain ⟨vs, e1, e2, e3⟩ := one_of hr hx
      unfold takeX at h
      split at h
      · rename_i hg
        rw [chkP_iff] at h
        obtain ⟨hlen, h⟩ := h
        have hrun := run_field_agg hu hf hT hg (vs := vs)
        refine ⟨.agg (vs.extract fd.offset (fd.offset + T.size)), .one (.agg _), fun w' => by simp only [execOp, ho, e1, Sem.run_bind, hrun, Result.andThen_ok, Sem.run_pure], ⟨_, rfl, ?_, fun i y hy => ?_⟩, h⟩
        · simp [e2]; omega
        · rw [List.getElem?_take] at hy
          split at hy
          · rename_i hi
            rw [List.getElem?_drop] at hy
            obtain ⟨u, g1, g2⟩ := e3 _ _ hy
            refine ⟨u, ?_, g2⟩
            have := (Array.getElem?_eq_some_iff.1 g1)
            rw [Array.getElem?_extract, if_pos (by omega)]
            exact g1
          · cases hy
      · rename_i hg
        split at h
        · rename_i y hy
          obtain ⟨u, g1, g2⟩ := e3 _ _ hy
          have hrun := run_field_one hu hf hT (by simpa using hg) g1
          exact ⟨u, .one (.c y), fun w' => by simp only [execOp, ho, e1, Sem.run_bind, hrun, Result.andThen_ok, Sem.run_pure], g2, h⟩
        · exact h.elim
    · exact h.elim
  · rename_i t i ho
    simp only [opX.eq_def, ho] at h
    split at h
    · rename_i vs ht
      split at h
      · rename_i v hv
        have h1 := hr.eval t
        rw [ht] at h1
        obtain ⟨us, e1, e2, e3⟩ := h1
        obtain ⟨u, g1, g2⟩ := e3 _ _ hv
        exact ⟨u, .one v, fun w' => by simp only [execOp, ho, e1, Instr.extract, g1, Sem.run_bind, Result.andThen_ok, Sem.run_pure], g2, h⟩
      · exact h.elim
    · exact h.elim
  · rename_i t x f ho
    simp only [opX.eq_def, ho] at h
    split at h
    · rename_i T p hT hx
      obtain ⟨hT⟩ := tyX_facts (G.ok _ _ hT)
      obtain ⟨v, z, h1, h2, h3⟩ := run_fieldX' (P := G.P) hT h (one_of hr hx)
      exact ⟨v, .one (.c z), fun w' => by simp only [execOp, ho, Sem.run_bind, h1 w', Result.andThen_ok, Sem.run_pure], h2, h3⟩
    · exact h.elim
  · rename_i t x i ho
    simp only [opX.eq_def, ho] at h
    split at h
    · rename_i T p j hT hx hi
      obtain ⟨hT⟩ := tyX_facts (G.ok _ _ hT)
      split at h
      · rename_i e hk'
        split at h
        · rename_i E hE
          obtain ⟨hE⟩ := tyX_facts (G.ok _ _ hE)
          obtain ⟨r, z, h1, h2, h3⟩ := run_indexX' (P := G.P) hT hk' hE (chkP_iff.1 h).2 (chkP_iff.1 h).1 (one_of hr hx) (one_of hr hi)
          exact ⟨r, .one (.c z), fun w' => by simp only [execOp, ho, Sem.run_bind, h1 w', Result.andThen_ok, Sem.run_pure], h2, h3⟩
        · exact h.elim
      · rename_i n e hk'
        split at h
        · rename_i E hE
          obtain ⟨hE⟩ := tyX_facts (G.ok _ _ hE)
          obtain ⟨r, z, h1, h2, h3⟩ := run_indexX_array' (P := G.P) hT hk' hE h (one_of hr hx) (one_of hr hi)
          exact ⟨r, .one (.c z), fun w' => by simp only [execOp, ho, Sem.run_bind, h1 w', Result.andThen_ok, Sem.run_pure], h2, h3⟩
        · exact h.elim
      · exact h.elim
    · exact h.elim
  · cases hq

theorem pure_sound {G : Gen} {o : Oper} {st : St} {c : Ctx} {a : Act} {w : World} {k : SV → Objs → Prop} (h : opX G o st k) (hq : pureOp o = true) (hr : Rel c st a w) :
    ∃ v sv, (∀ w', (execOp a.eval o).run G.P w' = .ok (.value v) w') ∧ RelSV c st.objs w sv v ∧ k sv st.objs := pureF_sound h hq hr

theorem runW_sound {G : Gen} {ops : Array Oper} {Q : Exit → Act → World → Prop} (hQ : ∀ c a w, ¬ Q (.panic c) a w) (hs : Region.noSelect ops = true) : ∀ (p : Plan) (fuel : Nat) (listed : Array Bool) (st : St) (k : St → Prop), planOK ops fuel listed p = true → runW G ops.toList p st k →
    ∀ (c : Ctx) (a : Act) (w : World), Rel c st a w → (∀ st' c' a' w', Ext st.objs.length c st.objs w c' st'.objs w' → Rel c' st' a' w' → k st' → Q .normal a' w') → wpAnyH G.P .any ops Q (fun _ => True) fuel listed a w := by
  have loud : ∀ (i : Nat) (p : Plan), (∀ (fuel : Nat) (listed : Array Bool) (st : St) (k : St → Prop), planOK ops fuel listed p = true → runW G ops.toList p st k →
      ∀ (c : Ctx) (a : Act) (w : World), Rel c st a w → (∀ st' c' a' w', Ext st.objs.length c st.objs w c' st'.objs w' → Rel c' st' a' w' → k st' → Q .normal a' w') → wpAnyH G.P .any ops Q (fun _ => True) fuel listed a w) →
      ∀ (fuel : Nat) (listed : Array Bool) (env : List (Nat × SV)) (objs : Objs) (n : Nat) (k : St → Prop), planOK ops fuel (listed.setIfInBounds i true) p = true →
      (match getO ops.toList i with
        | some o => chkP (dstOK o.dst n = true) <|
            grdX ops.toList o env n (fun env => opX G o ⟨env, objs, n⟩ fun v objs => handX o env n v objs fun st => runW G ops.toList p st k) (fun env => runW G ops.toList p ⟨putE o.dst (.tup []) env, objs, n⟩ k)
        | none => False) →
      ∀ (c : Ctx) (a : Act) (w : World), Rel c ⟨env, objs, n⟩ a w → (∀ st' c' a' w', Ext objs.length c objs w c' st'.objs w' → Rel c' st' a' w' → k st' → Q .normal a' w') →
      wpOp G.P ops Q i (fun a' w' => True ∧ wpAnyH G.P .any ops Q (fun _ => True) fuel (listed.setIfInBounds i true) a' w') a w := by
    intro i p ih fuel listed env objs n k hp h c a w hr hk
    split at h
    · rename_i o hi
      rw [getO_eq, Array.getElem?_toList] at hi
      replace h := chkP_iff.1 h
      obtain ⟨hdst, h⟩ := h
      unfold wpOp
      simp only [hi]
      rcases grdX_sound h hr hdst with ⟨hw, env1, hr1, hrun⟩ | ⟨hw, env2, hr2, hskip⟩
      · rw [if_pos hw]
        refine .inl (opX_sound hrun hr1 ?_)
        rintro v w' ⟨c', objs', sv, hE, hr', hv, hkk⟩
        rw [handX_eq] at hkk
        exact ⟨trivial, ih fuel _ _ k hp hkk c' _ w' (hr1.put' hE hr' hv hdst) (fun st' c'' a' w'' hE' hr'' hkkk => hk st' c'' a' w'' (hE.trans hE' hE.len0) hr'' hkkk)⟩
      · rw [if_neg (by rw [hw]; exact Bool.false_ne_true)]
        exact ⟨trivial, ih fuel _ _ k hp hskip c _ w hr2 (fun st' c' a' w' hE hr' hkkk => hk st' c' a' w' hE hr' hkkk)⟩
    · exact h.elim
  intro p
  induction p with
  | done =>
    intro fuel listed st k hp h c a w hr hk
    have hrd : Region.ready .any ops listed = [] := by cases fuel <;> simpa [planOK] using hp
    exact wpAnyH_done hrd (hk st c a w (Ext.refl _ _ _ _) hr h) _
  | take i p ih =>
    rintro fuel listed ⟨env, objs, n⟩ k hp h c a w hr hk
    cases fuel with
    | zero => simp [planOK] at hp
    | succ fuel =>
      simp only [planOK, Bool.and_eq_true] at hp
      obtain ⟨⟨hf, hc⟩, hp⟩ := hp
      unfold runW at h
      split at h
      · rename_i o hi
        rw [getO_eq, Array.getElem?_toList] at hi
        replace h := chkP_iff.1 h
        obtain ⟨⟨hdst, hq⟩, h⟩ := h
        rcases grdX_sound h hr hdst with ⟨hw, env1, hr1, hrun⟩ | ⟨hw, env2, hr2, hskip⟩
        · obtain ⟨v, sv, h1, h2, h3⟩ := pure_sound hrun hq hr1
          rw [handX_eq] at h3
          refine wpAnyH_take (v := v) hi hs hf hc (fun c a w hh => absurd hh (hQ c _ w)) (.inl ⟨hw, fun w' _ => h1 w'⟩) trivial ?_
          exact ih fuel _ _ k hp h3 c _ w (hr1.put' (Ext.refl _ _ _ _) hr.objs h2 hdst) (fun st' c' a' w' hE hr' hkk => hk st' c' a' w' hE hr' hkk)
        · refine wpAnyH_take (v := undef) hi hs hf hc (fun c a w hh => absurd hh (hQ c _ w)) (.inr ⟨hw, rfl⟩) trivial ?_
          exact ih fuel _ _ k hp hskip c _ w hr2 (fun st' c' a' w' hE hr' hkk => hk st' c' a' w' hE hr' hkk)
      · exact h.elim
  | one i p ih =>
    rintro fuel listed ⟨env, objs, n⟩ k hp h c a w hr hk
    cases fuel with
    | zero => simp [planOK] at hp
    | succ fuel =>
      simp only [planOK, Bool.and_eq_true, beq_iff_eq] at hp
      refine wpAnyH_all hp.1 (by simp) (fun j hj => ?_)
      obtain rfl := List.mem_singleton.1 hj
      unfold runW at h
      exact loud _ p ih fuel listed env objs n k hp.2 h c a w hr hk
  | two i p j q ih ihq =>
    rintro fuel listed ⟨env, objs, n⟩ k hp h c a w hr hk
    cases fuel with
    | zero => simp [planOK] at hp
    | succ fuel =>
      simp only [planOK, Bool.and_eq_true, beq_iff_eq] at hp
      obtain ⟨⟨hp1, hp2⟩, hp3⟩ := hp
      refine wpAnyH_all hp1 (by simp) (fun l hl => ?_)
      unfold runW at h
      rcases List.mem_cons.1 hl with rfl | hl
      · exact loud _ p ih fuel listed env objs n k hp2 h.fst c a w hr hk
      · obtain rfl := List.mem_singleton.1 hl
        exact loud _ q ihq fuel listed env objs n k hp3 h.snd c a w hr hk
  | three i p j q l r ih ihq ihr =>
    rintro fuel listed ⟨env, objs, n⟩ k hp h c a w hr hk
    cases fuel with
    | zero => simp [planOK] at hp
    | succ fuel =>
      simp only [planOK, Bool.and_eq_true, beq_iff_eq] at hp
      obtain ⟨⟨⟨hp1, hp2⟩, hp3⟩, hp4⟩ := hp
      refine wpAnyH_all hp1 (by simp) (fun m hm => ?_)
      unfold runW at h
      rcases List.mem_cons.1 hm with rfl | hm
      · exact loud _ p ih fuel listed env objs n k hp2 h.fst c a w hr hk
      · rcases List.mem_cons.1 hm with rfl | hm
        · exact loud _ q ihq fuel listed env objs n k hp3 h.snd.fst c a w hr hk
        · obtain rfl := List.mem_singleton.1 hm
          exact loud _ r ihr fuel listed env objs n k hp4 h.snd.snd c a w hr hk

theorem loud_run {G : Gen} {o : Oper} {st : St} {c : Ctx} {a : Act} {w : World} {k : SV → Objs → Prop} (h : opX G o st k) (hq : loudOp o = true) (hr : Rel c st a w) :
    ∃ v w', (execOp a.eval o).run G.P w = .ok (.value v) w' ∧ Steps1 c st.objs w k v w' := by
  unfold loudOp at hq
  split at hq
  · rename_i t ho
    simp only [opX.eq_def, ho] at h
    split at h
    · rename_i T hT
      obtain ⟨hT⟩ := tyX_facts (G.ok _ _ hT)
      obtain ⟨c', w', h1, h2, h3, h4⟩ := run_alloc (P := G.P) hT hr.objs
      exact ⟨_, _, by simp only [execOp, ho, Sem.run_bind, h1, Result.andThen_ok, Sem.run_pure], c', _, .one (.c (.ptr st.objs.length 0 0)), h2, h3, h4, h⟩
    · exact h.elim
  · rename_i t x ho
    simp only [opX.eq_def, ho] at h
    split at h
    · rename_i cs hcs
      obtain ⟨c', w', h1, h2, h3, h4⟩ := run_box (P := G.P) (t := t) hr.objs (cells_of hcs (hr.eval x))
      exact ⟨_, _, by simp only [execOp, ho, Sem.run_bind, h1, Result.andThen_ok, Sem.run_pure], c', _, .one (.c (.ptr st.objs.length 0 0)), h2, h3, h4, h⟩
    · exact h.elim
  · rename_i t len parts ho
    simp only [opX.eq_def, ho] at h
    split at h
    · rename_i T ps hT hps
      obtain ⟨hT⟩ := tyX_facts (G.ok _ _ hT)
      split at h
      · rename_i e hk'
        split at h
        · rename_i E hE
          obtain ⟨hE⟩ := tyX_facts (G.ok _ _ hE)
          split at h
          · rename_i z hz
            split at h
            · rename_i xs hxs
              replace h := chkP_iff.1 h; obtain ⟨hpos, h⟩ := h
              replace h := chkP_iff.1 h; obtain ⟨hsm, h⟩ := h
              have hzr := zero_row hE (c := c) (w := w) hz len
              obtain ⟨cells, h1, h2, h3⟩ := run_fill_slice (w := w) ps (parts.map fun (i, x) => (i, a.eval x)).toList _ _ _ hxs (by simpa using parts_of hr hps) hzr
              rw [List.length_replicate] at h3
              have hsz : E.size = hE.i.size := hE.size
              have hb := run_buildSlice' (P := G.P) (und_of_kind_slice hT hk') hE (w := w) (len := len) (parts := parts.map fun (i, x) => (i, a.eval x)) (cells := cells) (by omega) h1
              obtain ⟨c', k1, k2, k3⟩ := new_row (T := e) hr.objs h2 h3 (Nat.le_refl len)
              exact ⟨_, _, by simp only [execOp, ho, Sem.run_bind, hb, Result.andThen_ok, Sem.run_pure], c', _, .one (.c (.sl st.objs.length 0 E.size 0 len (some len))), k1, k2, k3, h⟩
            · rcases h with h | h
              · split at h
                · rename_i pre o' ver' e2 len' post hown
                  split at h
                  · rename_i e3 ys hob
                    replace h := chkP_iff.1 h; obtain ⟨⟨rfl, rfl, he, hsm⟩, hlen, h⟩ := h
                    have hp : RelParts c st.objs w ps (parts.map fun (i, x) => (i, a.eval x)).toList := by simpa using parts_of hr hps
                    unfold ownPart at hown
                    split at hown
                    · rename_i cs _
                      generalize hL : (parts.map fun (i, x) => (i, a.eval x)).toList = L at hp
                      match L, hp with
                      | [(j, v)], hp =>
                        obtain ⟨rfl, hv, _⟩ := hp
                        obtain ⟨cap, s1, _⟩ := splitOwn_spec hown
                        have hvl : v.cells.toList.length = cs.length := hv.1
                        have hvs : v.cells.size = E.size := by have := hvl; simp at this; omega
                        have hsz : E.size = hE.i.size := hE.size
                        let Z : Array Value := (Array.range (1 * E.size)).map (hE.z.cells[· % hE.z.cells.size]!)
                        have hZ : Z.size = E.size := by simp [Z]
                        have hfill : Instr.fill (fun i => some (i * E.size, E.size)) Z [(0, v)] = some (putRow' Z 0 v.cells.toList) := by
                          unfold Instr.fill
                          simp only [Nat.zero_mul]
                          rw [if_neg (by simp [hvs]; omega), foldl_put (by rw [hvs]; omega)]
                          rfl
                        have hcells : (putRow' Z 0 v.cells.toList).toList = v.cells.toList := by
                          have hz : Z.size ≤ v.cells.size := by omega
                          simp [putRow', hz]
                        have hb := run_buildSlice' (P := G.P) (und_of_kind_slice hT hk') hE (w := w) (len := 1) (parts := parts.map fun (i, x) => (i, a.eval x)) (cells := putRow' Z 0 v.cells.toList) (by omega) (by rw [hL]; exact hfill)
                        obtain ⟨c', k1, k2, k3⟩ := build_own (te := e) (cells := putRow' Z 0 v.cells.toList) hr.objs (objAt_some hob) hlen hown he (by rw [hcells]; exact hv)
                        exact ⟨_, _, by simp only [execOp, ho, Sem.run_bind, hb, Result.andThen_ok, Sem.run_pure], c', _, .one (.c (.sl st.objs.length 1 E.size 0 1 (some 1))), k1, k2, k3, h⟩
                      | [], hp => exact hp.elim
                      | _ :: _ :: _, hp => obtain ⟨_, _, hp⟩ := hp; exact hp.elim
                    · cases hown
                  · exact h.elim
                · exact h.elim
              · obtain ⟨hok, h⟩ := h
                split at h
                · rename_i ps' objs' hfz
                  split at h
                  · rename_i xs hxs
                    replace h := chkP_iff.1 h; obtain ⟨hpos, h⟩ := h
                    replace h := chkP_iff.1 h; obtain ⟨hsm, h⟩ := h
                    have hp : RelParts c st.objs w ps (parts.map fun (i, x) => (i, a.eval x)).toList := by simpa using parts_of hr hps
                    obtain ⟨c0, hE0, hr0, hp0, hlen0⟩ := run_freezePs hr.objs hfz hok hp
                    have hzr := zero_row hE (c := c0) (w := w) hz len
                    obtain ⟨cells, h1, h2, h3⟩ := run_fill_slice (w := w) ps' (parts.map fun (i, x) => (i, a.eval x)).toList _ _ _ hxs hp0 hzr
                    rw [List.length_replicate] at h3
                    have hsz : E.size = hE.i.size := hE.size
                    have hb := run_buildSlice' (P := G.P) (und_of_kind_slice hT hk') hE (w := w) (len := len) (parts := parts.map fun (i, x) => (i, a.eval x)) (cells := cells) (by omega) h1
                    obtain ⟨c', k1, k2, k3⟩ := new_row (T := e) hr0 h2 h3 (Nat.le_refl len)
                    exact ⟨_, _, by simp only [execOp, ho, Sem.run_bind, hb, Result.andThen_ok, Sem.run_pure], c', _, .one (.c (.sl objs'.length 0 E.size 0 len (some len))), hE0.trans k1 hE0.len0, k2, k3, h⟩
                  · exact h.elim
                · exact h.elim
          · exact h.elim
        · exact h.elim
      · exact h.elim
    · exact h.elim
  · rename_i cl ho
    split at hq
    · rename_i b hb
      simp only [opX.eq_def, ho] at h
      unfold callOpX at h
      split at h
      · rename_i args hargs
        obtain ⟨a1, a2⟩ := args_of hr hargs
        have hsz : (cl.args.map a.eval).size = args.length := by simp; simpa using a1
        have hval : ∀ (i : Nat) x, args[i]? = some x → ∃ u, (cl.args.map a.eval)[i]? = some u ∧ RelV1 c st.objs w x u := by
          intro i x hx
          obtain ⟨u, m1, m2⟩ := a2 i x hx
          exact ⟨u, by simpa using m1, m2⟩
        simp only [hb] at h
        obtain ⟨v, w', h1, h2⟩ := builtinX_sound (G := G) (ty := o.type) (consts := cl.args.map fun | .const _ => true | _ => false) hr.objs h hsz hval
        exact ⟨v, w', by simp only [execOp, ho, resolve, hb, Sem.run_bind, Sem.run_pure, Result.andThen_ok, invoke]; exact h1, h2⟩
      · exact h.elim
    · cases hq
  · cases hq

theorem fzN_get : ∀ (n : Nat) (objs : Objs) (o : Nat), (fzN n objs)[o]? = (objs[o]?).map fun x => if o < n then (x.1, fzOB x.2) else x
  | 0, objs, o => by simp [fzN]
  | n + 1, [], o => by simp [fzN]
  | n + 1, (v, b) :: r, 0 => by simp [fzN]
  | n + 1, (v, b) :: r, o + 1 => by simp [fzN, fzN_get n r o]

theorem fzOB_mine (b : OB) : (fzOB b).mine = false := by cases b <;> rfl

theorem fzOB_dead {b : OB} : fzOB b = .dead ↔ b = .dead := by cases b <;> simp [fzOB]

theorem live_fz {n : Nat} {objs : Objs} {o ver : Nat} : Live (fzN n objs) o ver ↔ Live objs o ver := by
  unfold Live
  rw [fzN_get]
  constructor
  · rintro ⟨b, h1, h2⟩
    simp only [Option.map_eq_some_iff] at h1
    obtain ⟨⟨v, b'⟩, h3, h4⟩ := h1
    split at h4
    · simp only [Prod.mk.injEq] at h4
      obtain ⟨rfl, rfl⟩ := h4
      exact ⟨b', h3, fun h => h2 (fzOB_dead.2 h)⟩
    · cases h4
      exact ⟨_, h3, h2⟩
  · rintro ⟨b, h1, h2⟩
    by_cases hn : o < n
    · exact ⟨fzOB b, by rw [h1]; simp [hn], fun h => h2 (fzOB_dead.1 h)⟩
    · exact ⟨b, by rw [h1]; simp [hn], h2⟩

theorem known_fz {n : Nat} {objs : Objs} {o ver : Nat} : Known (fzN n objs) o ver ↔ Known objs o ver := by
  unfold Known
  rw [fzN_get]
  constructor
  · rintro ⟨cur, b, h1, h2⟩
    simp only [Option.map_eq_some_iff] at h1
    obtain ⟨⟨v, b'⟩, h3, h4⟩ := h1
    split at h4 <;> cases h4 <;> exact ⟨_, _, h3, h2⟩
  · rintro ⟨cur, b, h1, h2⟩
    by_cases hn : o < n
    · exact ⟨cur, fzOB b, by rw [h1]; simp [hn], h2⟩
    · exact ⟨cur, b, by rw [h1]; simp [hn], h2⟩

section fz
variable {n : Nat} {c : Ctx} {objs : Objs} {w : World}

theorem relCV_fz {x : CV} {v : Value} (h : RelCV c objs w x v) : RelCV c (fzN n objs) w x v := by
  cases x with
  | d x => exact h
  | nilsl => exact h
  | esl => exact h
  | ip e xs i j => exact h
  | ptr o ver off => exact ⟨h.1, known_fz.2 h.2.1, fun hl => h.2.2 (live_fz.1 hl)⟩
  | eptr o ver e i j => exact ⟨h.1, known_fz.2 h.2.1, fun hl => h.2.2 (live_fz.1 hl)⟩
  | sl o ver e off len cap => exact ⟨h.1, known_fz.2 h.2.1, fun hl => h.2.2 (live_fz.1 hl)⟩
  | gsl o ver p e off len => exact ⟨h.1, known_fz.2 h.2.1, fun hl => h.2.2 (live_fz.1 hl)⟩
  | gptr o ver p e i j => exact ⟨h.1, known_fz.2 h.2.1, fun hl => h.2.2 (live_fz.1 hl)⟩
  | mp o ver => exact ⟨h.1, known_fz.2 h.2.1, fun hl => h.2.2 (live_fz.1 hl)⟩
  | fn f caps =>
    obtain ⟨vs, h1, h2, h3⟩ := h
    refine ⟨vs, h1, h2, fun i o ver off hi => ?_⟩
    obtain ⟨u, k1, k2⟩ := h3 i o ver off hi
    exact ⟨u, k1, k2.1, known_fz.2 k2.2.1, fun hl => k2.2.2 (live_fz.1 hl)⟩

theorem relV1_fz {x : V1} {v : Value} (h : RelV1 c objs w x v) : RelV1 c (fzN n objs) w x v := by
  cases x with
  | c x => exact relCV_fz h
  | agg xs =>
    obtain ⟨vs, h1, h2, h3⟩ := h
    exact ⟨vs, h1, h2, fun i x hi => by obtain ⟨u, k1, k2⟩ := h3 i x hi; exact ⟨u, k1, relCV_fz k2⟩⟩

theorem relSV_fz {x : SV} {v : Value} (h : RelSV c objs w x v) : RelSV c (fzN n objs) w x v := by
  cases x with
  | un => trivial
  | one x => exact relV1_fz h
  | tup xs =>
    obtain ⟨vs, h1, h2, h3⟩ := h
    exact ⟨vs, h1, h2, fun i x hi => by obtain ⟨u, k1, k2⟩ := h3 i x hi; exact ⟨u, k1, relV1_fz k2⟩⟩

theorem relOB_fz {o : Nat} {bd : OB} (h : RelOB c objs w o bd) : RelOB c (fzN n objs) w o bd := by
  induction bd with
  | dead => trivial
  | arr e xs => exact h
  | grid e xs => exact h
  | map n es => exact h
  | fro r b ih => exact ⟨ih h.1, h.2⟩
  | box xs =>
    obtain ⟨b, base, cs, T, h1, h2, h3, h4⟩ := h
    exact ⟨b, base, cs, T, h1, h2, h3, fun i x hi => by obtain ⟨u, k1, k2⟩ := h4 i x hi; exact ⟨u, k1, relCV_fz k2⟩⟩

theorem relOB_fzOB {o : Nat} {bd : OB} (h : RelOB c objs w o bd) : RelOB c objs w o (fzOB bd) := by
  cases bd with
  | dead => exact h
  | fro r b => exact h
  | _ => exact ⟨h, fun h => by cases h⟩

theorem fz_mine {o ver : Nat} {bd : OB} (h : (fzN n objs)[o]? = some (ver, bd)) (hm : bd.mine = true) : n ≤ o ∧ objs[o]? = some (ver, bd) := by
  rw [fzN_get] at h
  simp only [Option.map_eq_some_iff] at h
  obtain ⟨⟨v, b'⟩, h3, h4⟩ := h
  split at h4
  · cases h4
    rw [fzOB_mine] at hm
    cases hm
  · cases h4
    exact ⟨by omega, h3⟩

theorem fz_own {b : Nat} (h : Own c (fzN n objs) b) : Own c objs b := by
  obtain ⟨o, ver, bd, h1, h2, h3⟩ := h
  exact ⟨o, ver, bd, (fz_mine h1 h2).2, h2, h3⟩

theorem relObjs_fz (hr : RelObjs c objs w) : RelObjs c (fzN n objs) w := by
  refine ⟨fun o ver bd h1 => ?_, fun o1 o2 v1 v2 b1 b2 b h1 d1 h2 d2 p1 p2 => ?_, hr.rsize, fun o ver bd b h1 h2 h3 => ?_, fun b hb => hr.oR b (fz_own hb)⟩
  · rw [fzN_get] at h1
    simp only [Option.map_eq_some_iff] at h1
    obtain ⟨⟨v, b'⟩, h3, h4⟩ := h1
    split at h4
    · cases h4
      exact relOB_fzOB (relOB_fz (hr.ob _ _ _ h3))
    · cases h4
      exact relOB_fz (hr.ob _ _ _ h3)
  · obtain ⟨b2', k1, k2⟩ := live_fz.1 (⟨b2, h2, d2⟩ : Live (fzN n objs) o2 v2)
    exact hr.inj o1 o2 v1 v2 b1 b2' b (fz_mine h1 d1).2 d1 k1 k2 p1 p2
  · obtain ⟨b', k1, k2⟩ := live_fz.1 (⟨bd, h1, h2⟩ : Live (fzN n objs) o ver)
    exact hr.lsize o ver b' b k1 k2 h3

theorem rel_fz {env : List (Nat × SV)} {m : Nat} {a : Act} (hr : Rel c ⟨env, objs, m⟩ a w) : Rel c ⟨env, fzN n objs, m⟩ a w :=
  ⟨relObjs_fz hr.objs, fun t ht => by obtain ⟨v, h1, h2⟩ := hr.env t ht; exact ⟨v, h1, relSV_fz h2⟩, hr.size, hr.defers⟩
end fz

theorem samePre_get : ∀ {n : Nat} {objs objs' : Objs}, samePre n objs objs' = true → ∀ {o ver : Nat} {bd : OB}, o < n → objs[o]? = some (ver, bd) → ∃ bd', objs'[o]? = some (ver, bd') ∧ bd' ≠ .dead
  | 0, _, _, _, o, _, _, ho, _ => by omega
  | n + 1, [], _, h, _, _, _, _, _ => by cases h
  | n + 1, _ :: _, [], h, _, _, _, _, _ => by cases h
  | n + 1, (v, b) :: r, (v', b') :: r', h, o, ver, bd, ho, hb => by
    unfold samePre at h
    split at h
    · rename_i hv
      split at h
      · cases h
      · rename_i hd
        obtain rfl := Nat.eq_of_beq_eq_true hv
        cases o with
        | zero =>
          simp only [List.getElem?_cons_zero, Option.some.injEq, Prod.mk.injEq] at hb
          obtain ⟨rfl, rfl⟩ := hb
          exact ⟨b', rfl, by rintro rfl; cases hd⟩
        | succ o =>
          simp only [List.getElem?_cons_succ] at hb ⊢
          exact samePre_get h (by omega) hb
    · cases h

theorem own_next {n0 : Nat} {c c' : Ctx} {objs objs' : Objs} {w w' : World} {B : Nat} (hr' : RelObjs c' objs' w') (hE : Ext objs.length c objs w c' objs' w') (hs : samePre n0 objs objs' = true)
    (hI : ∀ b, Own c (fzN n0 objs) b → B ≤ b) (hB : B ≤ w.heap.size) : ∀ b, Own c' (fzN n0 objs') b → B ≤ b := by
  rintro b ⟨o, ver, bd, h1, h2, h3⟩
  obtain ⟨hge, h1'⟩ := fz_mine h1 h2
  rcases hE.own b ⟨o, ver, bd, h1', h2, h3⟩ with ⟨o2, ver2, bd2, k1, k2, k3⟩ | h
  · by_cases ho2 : o2 < n0
    · exfalso
      obtain ⟨bd', m1, m2⟩ := samePre_get hs ho2 k1
      have hlt : o2 < objs.length := (List.getElem?_eq_some_iff.1 k1).1
      obtain ⟨cur', bd'', g1, g2, g3⟩ := hE.refs o2 ver2 bd2 hlt k1
      rw [m1] at g1
      obtain ⟨rfl, rfl⟩ : ver2 = cur' ∧ bd' = bd'' := by simpa using g1
      obtain ⟨_, q1, q2⟩ := g3 rfl m2
      have hhas : c'.has o2 b := by
        rcases k3 with ⟨base, e⟩ | ⟨p, base, e⟩
        · exact .inl ⟨base, q1.trans e⟩
        · exact .inr ⟨p, base, q2 _ _ e⟩
      have := hr'.inj o o2 ver ver2 bd bd' b h1' h2 m1 m2 h3 hhas
      omega
    · refine hI b ⟨o2, ver2, bd2, ?_, k2, k3⟩
      rw [fzN_get, k1]
      simp [ho2]
  · omega

/-- Whatever order comes: behind each operation that T does not name S holds, if need be (for those that Pr names) because it held before. -/
def heldT (P : Program) (ops : Array Oper) (Q : Exit → Act → World → Prop) (S : World → Prop) (T Pr : Nat → Bool) : Nat → Array Bool → Act → World → Prop
  | 0, listed, a, w => Region.ready .any ops listed = [] ∧ Q .normal a w
  | n + 1, listed, a, w => (Region.ready .any ops listed = [] → Q .normal a w) ∧
      ∀ j, j ∈ Region.ready .any ops listed → wpOp P ops Q j (fun a w' => (T j = false → (Pr j = true → S w) → S w') ∧ heldT P ops Q S T Pr n (listed.setIfInBounds j true) a w') a w

section heldT
variable {P : Program} {ops : Array Oper} {Q : Exit → Act → World → Prop} {S : World → Prop} {T Pr : Nat → Bool}

theorem heldT_any (n : Nat) : ∀ (listed : Array Bool) (a : Act) (w : World), heldT P ops Q S T Pr n listed a w → wpAny P .any ops Q n listed a w := by
  induction n with
  | zero => intro listed a w h; exact h
  | succ n ih => intro listed a w h; exact ⟨h.1, fun j hj => wpOp_mono (fun a w g => ih _ a w g.2) (h.2 j hj)⟩

theorem getD_of_ready {listed : Array Bool} {i : Nat} {oj : Oper} (hi : i ∈ Region.ready .any ops listed) (hall : ∀ e ∈ oj.after, Region.binds .any e = true → listed.getD e.on false = true) {e : Edge} (he : e ∈ oj.after) (hb : Region.binds .any e = true) : e.on ≠ i := by
  rintro rfl
  have h1 := hall e he hb
  have h0 := (mem_ready.1 hi).1
  by_cases h : e.on < listed.size
  · simp [h] at h0 h1
    rw [h0] at h1
    cases h1
  · simp [Array.getElem?_eq_none (Nat.le_of_not_lt h)] at h1

/-- An operation taken first: where S stands for it, or in whatever world (Pr). -/
theorem heldT_first {S' : World → Prop} {i : Nat} {oi : Oper} {v : Value} (hi : ops[i]? = some oi) (hs : Region.noSelect ops = true) (hQ : ∀ c a w, ¬ Q (.panic c) a w)
    (hT : Pr i = false → ∀ (j : Nat) (o : Oper), ops[j]? = some o → T j = true → ∃ e ∈ o.after, Region.binds .any e = true ∧ e.on = i) (hS' : ∀ w, Pr i = true ∨ S w → S' w) (n : Nat) : ∀ (listed : Array Bool) (a : Act) (w : World),
    (∀ (k : Nat) (o : Oper), ops[k]? = some o → k ≠ i → listed.getD k true = false → (∀ e ∈ o.after, Region.binds .any e = true → e.on ≠ i) → oi.apart ops o = true) →
    i ∈ Region.ready .any ops listed → YieldsIf P ops S' oi v a → (Pr i = true ∨ S w) → heldT P ops Q S T Pr n (listed.setIfInBounds i true) (a.put oi.dst v) w → heldT P ops Q S T Pr (n + 1) listed a w := by
  have hsel := Region.noSelect_spec hs
  have self : ∀ {w : World}, (Pr i = true ∨ S w) → T i = false → (Pr i = true → S w) → S w := fun h _ h2 => h.elim h2 id
  induction n with
  | zero =>
    intro listed a w _ hr hy hS H
    refine ⟨fun h0 => absurd hr (by rw [h0]; simp), fun j hj => ?_⟩
    rcases Nat.decEq j i with hji | hji
    · have hb := H.1 ▸ ready_mono hj hji
      cases hb
    · subst hji
      exact hy.wpOp hi (hS' w hS) ⟨self hS, H⟩
  | succ n ih =>
    intro listed a w hap hr hy hS H
    refine ⟨fun h0 => absurd hr (by rw [h0]; simp), fun j hj => ?_⟩
    rcases Nat.decEq j i with hji | hji
    · obtain ⟨hun, oj, hoj, hall⟩ := mem_ready.1 hj
      have hnot : ∀ e ∈ oj.after, Region.binds .any e = true → e.on ≠ i := fun e he hb => getD_of_ready hr hall he hb
      have hTj : Pr i = true ∨ T j = false := by
        cases hp : Pr i with
        | true => exact .inl rfl
        | false =>
          cases h : T j with
          | false => exact .inr rfl
          | true =>
            obtain ⟨e, he, hb, hon⟩ := hT hp j oj hoj h
            exact absurd hon (hnot e he hb)
      have step := wpOp_putIf hoj (hap j oj hoj hji hun hnot) (fun cs b => hsel i oi cs b hi) (fun cs b => hsel j oj cs b hoj) (fun c a w h => absurd h (hQ c _ w)) hy (H.2 j (ready_mono hj hji))
      refine wpOp_mono (fun a' w' g => ?_) step
      obtain ⟨g1, g2, g3⟩ := g
      refine ⟨g2, ih _ a' w' (fun k o hk hki hl hno => hap k o hk hki ?_ hno) (ready_mono hr (Ne.symm hji)) g1 ?_ (by rw [Array.setIfInBounds_comm _ _ hji]; exact g3)⟩
      · by_cases hjk : j = k
        · subst hjk; exact hun
        · rwa [getD_set_ne true hjk] at hl
      · rcases hS with h1 | h1
        · exact .inl h1
        · rcases hTj with h2 | h2
          · exact .inl h2
          · exact .inr (g2 h2 (fun _ => h1))
    · subst hji
      exact hy.wpOp hi (hS' w hS) ⟨self hS, H⟩

theorem heldT_all {rs : List Nat} {n : Nat} {listed : Array Bool} {a : Act} {w : World} (hr : Region.ready .any ops listed = rs) (hne : rs ≠ [])
    (h : ∀ j, j ∈ rs → wpOp P ops Q j (fun a w' => (T j = false → (Pr j = true → S w) → S w') ∧ heldT P ops Q S T Pr n (listed.setIfInBounds j true) a w') a w) : heldT P ops Q S T Pr (n + 1) listed a w :=
  ⟨fun h0 => (hne (hr.symm.trans h0)).elim, fun j hj => h j (hr ▸ hj)⟩

theorem heldT_done {n : Nat} {listed : Array Bool} {a : Act} {w : World} (hr : Region.ready .any ops listed = []) (h : Q .normal a w) : heldT P ops Q S T Pr n listed a w := by
  cases n with
  | zero => exact ⟨hr, h⟩
  | succ n => exact ⟨fun _ => h, fun j hj => by rw [hr] at hj; cases hj⟩
end heldT

theorem hasEdge_ex {i : Nat} : ∀ {l : List Edge}, hasEdge i l = true → ∃ e ∈ l, Region.binds .any e = true ∧ e.on = i
  | [], h => by cases h
  | e :: r, h => by
    unfold hasEdge at h
    split at h
    · rename_i hb
      split at h
      · rename_i he
        exact ⟨e, by simp, hb, Nat.eq_of_beq_eq_true he⟩
      · obtain ⟨e', h1, h2⟩ := hasEdge_ex h
        exact ⟨e', by simp [h1], h2⟩
    · obtain ⟨e', h1, h2⟩ := hasEdge_ex h
      exact ⟨e', by simp [h1], h2⟩

theorem waitsAll_get {t0 i : Nat} : ∀ {l : List Oper} {b : Nat}, waitsAll t0 i l b = true → ∀ {j : Nat} {o : Oper}, l[j]? = some o → t0 ≤ b + j → hasEdge i o.after.toList = true
  | [], _, _, j, o, hj, _ => by simp at hj
  | x :: r, b, h, j, o, hj, hle => by
    unfold waitsAll at h
    cases j with
    | zero =>
      simp only [List.getElem?_cons_zero, Option.some.injEq] at hj
      subst hj
      have hb : Nat.blt b t0 = false := by
        cases hc : Nat.blt b t0 with
        | false => rfl
        | true => rw [Nat.blt_eq] at hc; omega
      rw [hb] at h
      dsimp only at h
      split at h
      · assumption
      · cases h
    | succ j =>
      have key : waitsAll t0 i r (b + 1) = true := by
        split at h
        · exact h
        · split at h
          · exact h
          · cases h
      exact waitsAll_get key (by simpa using hj) (by omega)

theorem allTail_get {ops : List Oper} {t0 : Nat} : ∀ {n : Nat}, allTail ops t0 n = true → ∀ {i : Nat}, i < n → pureAt ops i = false → waitsAll t0 i ops 0 = true
  | 0, _, i, hi, _ => by omega
  | n + 1, h, i, hi, hp => by
    unfold allTail at h
    by_cases e : i = n
    · subst e
      rw [hp] at h
      dsimp only at h
      split at h
      · assumption
      · cases h
    · have key : allTail ops t0 n = true := by
        split at h
        · exact h
        · split at h
          · exact h
          · cases h
      exact allTail_get key (by omega) hp

theorem runF_sound {G : Gen} {ops : Array Oper} {Q : Exit → Act → World → Prop} (hQ : ∀ c a w, ¬ Q (.panic c) a w) (hs : Region.noSelect ops = true) {w0 : World} {n0 t0 : Nat} (hat : allTail ops.toList t0 t0 = true) : ∀ (p : Plan) (fuel : Nat) (listed : Array Bool) (early tl : Bool) (st : St) (k : St → Prop), planOK ops fuel listed p = true → runF G ops.toList n0 t0 p early tl st k →
    ∀ (c : Ctx) (a : Act) (w : World), Rel c st a w → (tl = false → SameOld w0 w ∧ (early = true → w = w0) ∧ ∀ b, Own c (fzN n0 st.objs) b → w0.heap.size ≤ b) →
    (∀ st' c' a' w', Ext st.objs.length c st.objs w c' st'.objs w' → Rel c' st' a' w' → k st' → Q .normal a' w') → heldT G.P ops Q (SameOld w0) (fun j => !Nat.blt j t0) (pureAt ops.toList) fuel listed a w := by
  have loud : ∀ (i : Nat) (p : Plan), (∀ (fuel : Nat) (listed : Array Bool) (early tl : Bool) (st : St) (k : St → Prop), planOK ops fuel listed p = true → runF G ops.toList n0 t0 p early tl st k →
      ∀ (c : Ctx) (a : Act) (w : World), Rel c st a w → (tl = false → SameOld w0 w ∧ (early = true → w = w0) ∧ ∀ b, Own c (fzN n0 st.objs) b → w0.heap.size ≤ b) →
      (∀ st' c' a' w', Ext st.objs.length c st.objs w c' st'.objs w' → Rel c' st' a' w' → k st' → Q .normal a' w') → heldT G.P ops Q (SameOld w0) (fun j => !Nat.blt j t0) (pureAt ops.toList) fuel listed a w) →
      ∀ (fuel : Nat) (listed : Array Bool) (early tl : Bool) (env : List (Nat × SV)) (objs : Objs) (n : Nat) (k : St → Prop), planOK ops fuel (listed.setIfInBounds i true) p = true →
      (stepF G ops.toList n0 t0 tl i env objs n fun tl st => runF G ops.toList n0 t0 p false tl st k) →
      ∀ (c : Ctx) (a : Act) (w : World), Rel c ⟨env, objs, n⟩ a w → (tl = false → SameOld w0 w ∧ (early = true → w = w0) ∧ ∀ b, Own c (fzN n0 objs) b → w0.heap.size ≤ b) → (∀ st' c' a' w', Ext objs.length c objs w c' st'.objs w' → Rel c' st' a' w' → k st' → Q .normal a' w') →
      wpOp G.P ops Q i (fun a' w' => ((!Nat.blt i t0) = false → (pureAt ops.toList i = true → SameOld w0 w) → SameOld w0 w') ∧ heldT G.P ops Q (SameOld w0) (fun j => !Nat.blt j t0) (pureAt ops.toList) fuel (listed.setIfInBounds i true) a' w') a w := by
    intro i p ih fuel listed early tl env objs n k hp h c a w hr hI hk
    unfold stepF at h
    split at h
    · rename_i o hi
      rw [getO_eq, Array.getElem?_toList] at hi
      replace h := chkP_iff.1 h
      obtain ⟨hdst, h⟩ := h
      unfold wpOp
      simp only [hi]
      split at h
      · rename_i hlt
        split at h
        · exact h.elim
        obtain ⟨hso, _, hI⟩ := hI rfl
        rcases grdX_sound h hr hdst with ⟨hw, env1, hr1, hrun⟩ | ⟨hw, env2, hr2, hskip⟩
        · rw [if_pos hw]
          have step : ∀ (v : Value) (w' : World) (c' : Ctx) (objs' : Objs) (sv : SV), SameOld w0 w' → Ext objs.length c objs w c' objs' w' → RelObjs c' objs' w' → RelSV c' objs' w' sv v →
              (chkP (samePre n0 objs objs' = true) <| handX o env1 n sv objs' fun st => runF G ops.toList n0 t0 p false false st k) → ((!Nat.blt i t0) = false → (pureAt ops.toList i = true → SameOld w0 w) → SameOld w0 w') ∧ heldT G.P ops Q (SameOld w0) (fun j => !Nat.blt j t0) (pureAt ops.toList) fuel (listed.setIfInBounds i true) (a.put o.dst v) w' := by
            intro v w' c' objs' sv hso' hE hr' hv hkk
            obtain ⟨hsp, hkk⟩ := chkP_iff.1 hkk
            rw [handX_eq] at hkk
            exact ⟨fun _ _ => hso', ih fuel _ false false _ k hp hkk c' _ w' (hr1.put' hE hr' hv hdst) (fun _ => ⟨hso', by simp, own_next hr' hE hsp hI hso.size⟩) (fun st' c'' a' w'' hE' hr'' hkkk => hk st' c'' a' w'' (hE.trans hE' hE.len0) hr'' hkkk)⟩
          unfold loudF at hrun
          split at hrun
          · rename_i hl
            obtain ⟨hf, hrun⟩ := hrun
            rw [fObjs_eq] at hf
            obtain ⟨v, w', e1, c', objs', sv, s1, s2, s3, s4⟩ := loud_run hrun hl hr1
            obtain ⟨v2, w2, e2, c2, objs2, sv2, t1, t2, t3, t4⟩ := loud_run hf hl (rel_fz hr1)
            rw [e1] at e2
            obtain ⟨rfl, rfl⟩ : v = v2 ∧ w' = w2 := by simpa using e2
            refine .inl (wp_value e1 (step v w' c' objs' sv ⟨Nat.le_trans hso.size t1.size, fun b hb => ?_⟩ s1 s2 s3 s4))
            rw [t1.keep b (Nat.lt_of_lt_of_le hb hso.size) (fun ho => by have := hI b ho; omega)]
            exact hso.old b hb
          · refine .inl (callPX_sound hrun hr1 ?_)
            intro v w' c' objs' sv hso' hE hr' hv hkk
            exact step v w' c' objs' sv (hso.trans hso') hE hr' hv hkk
        · rw [if_neg (by rw [hw]; exact Bool.false_ne_true)]
          exact ⟨fun _ _ => hso, ih fuel _ false false _ k hp hskip c _ w hr2 (fun _ => ⟨hso, by simp, hI⟩) (fun st' c' a' w' hE hr' hkkk => hk st' c' a' w' hE hr' hkkk)⟩
      · rename_i hlt
        have hnt : (!Nat.blt i t0) = true := by rw [hlt]; rfl
        rcases grdX_sound h hr hdst with ⟨hw, env1, hr1, hrun⟩ | ⟨hw, env2, hr2, hskip⟩
        · rw [if_pos hw]
          refine .inl (opX_sound hrun hr1 ?_)
          rintro v w' ⟨c', objs', sv, hE, hr', hv, hkk⟩
          rw [handX_eq] at hkk
          exact ⟨fun h0 _ => absurd (hnt.symm.trans h0) (by decide), ih fuel _ false true _ k hp hkk c' _ w' (hr1.put' hE hr' hv hdst) (by simp) (fun st' c'' a' w'' hE' hr'' hkkk => hk st' c'' a' w'' (hE.trans hE' hE.len0) hr'' hkkk)⟩
        · rw [if_neg (by rw [hw]; exact Bool.false_ne_true)]
          exact ⟨fun h0 _ => absurd (hnt.symm.trans h0) (by decide), ih fuel _ false true _ k hp hskip c _ w hr2 (by simp) (fun st' c' a' w' hE hr' hkkk => hk st' c' a' w' hE hr' hkkk)⟩
    · exact h.elim
  intro p
  induction p with
  | done =>
    intro fuel listed early tl st k hp h c a w hr _ hk
    have hrd : Region.ready .any ops listed = [] := by cases fuel <;> simpa [planOK] using hp
    exact heldT_done hrd (hk st c a w (Ext.refl _ _ _ _) hr h)
  | take i p ih =>
    rintro fuel listed early tl ⟨env, objs, n⟩ k hp h c a w hr hI hk
    cases fuel with
    | zero => simp [planOK] at hp
    | succ fuel =>
      simp only [planOK, Bool.and_eq_true] at hp
      obtain ⟨⟨hf, hc⟩, hp⟩ := hp
      unfold runF at h
      split at h
      · rename_i o hi
        rw [getO_eq, Array.getElem?_toList] at hi
        replace h := chkP_iff.1 h
        obtain ⟨⟨hdst, hq, rfl, hlt⟩, h⟩ := h
        obtain ⟨hso, he, hI'⟩ := hI rfl
        have hlt' : i < t0 := by simpa [Nat.blt_eq] using hlt
        have hpa : pureAt ops.toList i = pureF o := by unfold pureAt; rw [getO_eq, Array.getElem?_toList, hi]
        have hT : pureAt ops.toList i = false → ∀ (j : Nat) (o : Oper), ops[j]? = some o → (!Nat.blt j t0) = true → ∃ e ∈ o.after, Region.binds .any e = true ∧ e.on = i := by
          intro hp j o' hj hjt
          have hge : t0 ≤ j := by
            simp only [Bool.not_eq_true'] at hjt
            rcases Nat.lt_or_ge j t0 with h0 | h0
            · rw [← Nat.blt_eq] at h0; rw [h0] at hjt; cases hjt
            · exact h0
          obtain ⟨e, h1, h2⟩ := hasEdge_ex (waitsAll_get (allTail_get hat hlt' hp) (by rw [Array.getElem?_toList]; exact hj) (by omega))
          exact ⟨e, Array.mem_toList_iff.1 h1, h2⟩
        have fst : ∀ {S' : World → Prop} {v : Value}, (∀ w, pureAt ops.toList i = true ∨ SameOld w0 w → S' w) → YieldsIf G.P ops S' o v a → heldT G.P ops Q (SameOld w0) (fun j => !Nat.blt j t0) (pureAt ops.toList) fuel (listed.setIfInBounds i true) (a.put o.dst v) w →
            heldT G.P ops Q (SameOld w0) (fun j => !Nat.blt j t0) (pureAt ops.toList) (fuel + 1) listed a w := fun hS' hy H =>
          heldT_first hi hs hQ hT hS' fuel listed a w (Region.free_spec hi hf) (by simpa using hc) hy (.inr hso) H
        rcases grdX_sound h hr hdst with ⟨hw, env1, hr1, hrun⟩ | ⟨hw, env2, hr2, hskip⟩
        · cases hpf : pureF o with
          | true =>
            obtain ⟨v, sv, h1, h2, h3⟩ := pureF_sound hrun hpf hr1
            rw [handX_eq] at h3
            exact fst (S' := fun _ => True) (fun _ _ => trivial) (.inl ⟨hw, fun w' _ => h1 w'⟩) (ih fuel _ early false _ k hp h3 c _ w (hr1.put' (Ext.refl _ _ _ _) hr.objs h2 hdst) (fun _ => ⟨hso, he, hI'⟩) (fun st' c' a' w' hE hr' hkk => hk st' c' a' w' hE hr' hkk))
          | false =>
            rw [hpf, Bool.false_or, Bool.and_eq_true] at hq
            obtain rfl := he hq.1
            obtain ⟨v, sv, h1, h2, h3⟩ := quiet_sound hrun hq.2 hr1
            rw [handX_eq] at h3
            exact fst (S' := SameOld w) (fun w' h => h.elim (fun h => by rw [hpa, hpf] at h; cases h) id) (.inl ⟨hw, h1⟩) (ih fuel _ early false _ k hp h3 c _ w (hr1.put' (Ext.refl _ _ _ _) hr.objs h2 hdst) (fun _ => ⟨hso, he, hI'⟩) (fun st' c' a' w' hE hr' hkk => hk st' c' a' w' hE hr' hkk))
        · exact fst (S' := fun _ => True) (fun _ _ => trivial) (.inr ⟨hw, rfl⟩) (ih fuel _ early false _ k hp hskip c _ w hr2 (fun _ => ⟨hso, he, hI'⟩) (fun st' c' a' w' hE hr' hkk => hk st' c' a' w' hE hr' hkk))
      · exact h.elim
  | one i p ih =>
    rintro fuel listed early tl ⟨env, objs, n⟩ k hp h c a w hr hI hk
    cases fuel with
    | zero => simp [planOK] at hp
    | succ fuel =>
      simp only [planOK, Bool.and_eq_true, beq_iff_eq] at hp
      refine heldT_all hp.1 (by simp) (fun j hj => ?_)
      obtain rfl := List.mem_singleton.1 hj
      unfold runF at h
      exact loud _ p ih fuel listed early tl env objs n k hp.2 h c a w hr hI hk
  | two i p j q ih ihq =>
    rintro fuel listed early tl ⟨env, objs, n⟩ k hp h c a w hr hI hk
    cases fuel with
    | zero => simp [planOK] at hp
    | succ fuel =>
      simp only [planOK, Bool.and_eq_true, beq_iff_eq] at hp
      obtain ⟨⟨hp1, hp2⟩, hp3⟩ := hp
      refine heldT_all hp1 (by simp) (fun l hl => ?_)
      unfold runF at h
      rcases List.mem_cons.1 hl with rfl | hl
      · exact loud _ p ih fuel listed early tl env objs n k hp2 h.fst c a w hr hI hk
      · obtain rfl := List.mem_singleton.1 hl
        exact loud _ q ihq fuel listed early tl env objs n k hp3 h.snd c a w hr hI hk
  | three i p j q l r ih ihq ihr =>
    rintro fuel listed early tl ⟨env, objs, n⟩ k hp h c a w hr hI hk
    cases fuel with
    | zero => simp [planOK] at hp
    | succ fuel =>
      simp only [planOK, Bool.and_eq_true, beq_iff_eq] at hp
      obtain ⟨⟨⟨hp1, hp2⟩, hp3⟩, hp4⟩ := hp
      refine heldT_all hp1 (by simp) (fun m hm => ?_)
      unfold runF at h
      rcases List.mem_cons.1 hm with rfl | hm
      · exact loud _ p ih fuel listed early tl env objs n k hp2 h.fst c a w hr hI hk
      · rcases List.mem_cons.1 hm with rfl | hm
        · exact loud _ q ihq fuel listed early tl env objs n k hp3 h.snd.fst c a w hr hI hk
        · obtain rfl := List.mem_singleton.1 hm
          exact loud _ r ihr fuel listed early tl env objs n k hp4 h.snd.snd c a w hr hI hk

/-- What was there stays as it was: so does all that is known of it. -/
theorem rel_sameOld {c : Ctx} {objs : Objs} {w w' : World} (hr : RelObjs c objs w) (h : SameOld w w') (ht : w'.tape = w.tape) (ho : w'.os = w.os) (hp : w'.output = w.output) : Ext objs.length c objs w c objs w' ∧ RelObjs c objs w' := by
  have hE0 : Ext objs.length c objs w c objs w' := by
    refine ⟨h.size, ht, ho, hp, fun b hb _ => h.old b hb, fun b cs T hb => ⟨cs, (h.old b (Array.getElem?_eq_some_iff.1 hb).1).trans hb, rfl⟩, fun _ h => .inl h, fun _ h => h, fun _ h => .inl h, fun _ cur bd _ h => ⟨cur, bd, h, Nat.le_refl _, fun _ h => ⟨h, rfl, fun _ _ h => h⟩⟩⟩
  refine ⟨hE0, fun o ver bd hb => ?_, hr.inj, fun b hb => Nat.lt_of_lt_of_le (hr.rsize b hb) h.size, fun o ver bd b h1 h2 h3 => Nat.lt_of_lt_of_le (hr.lsize o ver bd b h1 h2 h3) h.size, hr.oR⟩
  by_cases hdead : bd = .dead
  · subst hdead; exact trivial
  · exact RelOB.keep hE0 (Nat.le_refl _) hr rfl rfl (fun b hp => h.old b (hr.lsize o ver bd b hb hdead hp)) (hr.ob o ver bd hb)

theorem Rel.sameOld {c : Ctx} {st : St} {a : Act} {w w' : World} (hr : Rel c st a w) (h : SameOld w w') (ht : w'.tape = w.tape) (ho : w'.os = w.os) (hp : w'.output = w.output) : Ext st.objs.length c st.objs w c st.objs w' ∧ Rel c st a w' := by
  obtain ⟨h1, h2⟩ := rel_sameOld hr.objs h ht ho hp
  refine ⟨h1, h2, fun t hlt => ?_, hr.size, hr.defers⟩
  obtain ⟨u, k1, k2⟩ := hr.env t hlt
  exact ⟨u, k1, h1.relSV (Nat.le_refl _) hr.objs k2⟩

theorem drawX_region {G : Gen} {id : Nat} {ops : Array Oper} {st : St} {k : St → Prop} (h : DrawR G ops st k) {c : Ctx} {a : Act} {w : World} (hr : Rel c st a w)
    {Q : Exit → Act → World → Prop} (hk : ∀ st' c' a' w', Ext st.objs.length c st.objs w c' st'.objs w' → Rel c' st' a' w' → k st' → Q .normal a' w') : (Code.region id ops true).wp G.P Q a w := by
  refine wp_mono (Q := fun e a w => match e with | .normal => Q .normal a w | _ => False) ?_ (fun e a w he => by
    cases e with
    | normal => exact he
    | _ => exact he.elim)
  have hso : SameOld w { w with drawn := w.drawn + 1 } := ⟨Nat.le_refl _, fun _ _ => rfl⟩
  obtain ⟨hE, hr'⟩ := hr.sameOld hso rfl rfl rfl
  obtain ⟨hs, k', p, hk', hp, h⟩ := h
  replace hk : ∀ st' c' a' w', Ext st.objs.length c st.objs w c' st'.objs w' → Rel c' st' a' w' → k' st' → Q .normal a' w' := by
    intro st' c' a' w' hE' hr'' hkk
    obtain ⟨S, hS, hkS⟩ := hk' st' hkk
    obtain ⟨c'', hE2, hr2⟩ := hS c' a' w' hr''
    exact hk S c'' a' w' (hE'.trans hE2 (Nat.le_refl _)) hr2 hkS
  rcases h with h | h | h
  · refine wp_region_held (S := SameOld { w with drawn := w.drawn + 1 }) G.mixed ?_
    exact runP_sound (fun _ _ _ hh => hh) hs p _ _ st k' hp h c a _ hr' (fun st' c' a' w' hE' hr'' hkk => hk st' c' a' w' (hE.trans hE' (Nat.le_refl _)) hr'' hkk)
  · refine wp_region_held (S := fun _ => True) G.mixed ?_
    exact runW_sound (fun _ _ _ hh => hh) hs p _ _ st k' hp h c a _ hr' (fun st' c' a' w' hE' hr'' hkk => hk st' c' a' w' (hE.trans hE' (Nat.le_refl _)) hr'' hkk)
  · refine wp_region_any G.mixed (heldT_any (S := SameOld { w with drawn := w.drawn + 1 }) (T := fun j => !Nat.blt j (tailAt ops.toList)) (Pr := pureAt ops.toList) _ _ _ _ ?_)
    refine runF_sound (w0 := { w with drawn := w.drawn + 1 }) (n0 := st.objs.length) (fun _ _ _ hh => hh) hs h.1 p _ _ true false st k' hp h.2 c a _ hr' (fun _ => ⟨SameOld.refl _, fun _ => rfl, ?_⟩) (fun st' c' a' w' hE' hr'' hkk => hk st' c' a' w' (hE.trans hE' (Nat.le_refl _)) hr'' hkk)
    rintro b ⟨o, ver, bd, h1, h2, _⟩
    obtain ⟨hge, h1⟩ := fz_mine h1 h2
    have := (List.getElem?_eq_some_iff.1 h1).1
    omega

end Go.Proofs.Ytmfdkjjhdjkgpaa

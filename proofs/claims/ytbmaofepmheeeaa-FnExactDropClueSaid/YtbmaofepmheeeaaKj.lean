/- The executor is sound: values put together, rows made. -/
import Derived.Test.YtbmaofepmheeeaaKi
import Derived.Great.BuildSlice
namespace Go.Proofs.Ytbmaofepmheeeaa
open Go Go.RowKit

theorem foldl_set (off : Nat) : ∀ (l : List Value) (k : Nat) (cells : Array Value), off + k + l.length ≤ cells.size →
    ((l.zipIdx k).foldl (fun cs (p : Value × Nat) => cs.setIfInBounds (off + p.2) p.1) cells) = putRow' cells (off + k) l
  | [], k, cells, h => by
    apply Array.ext'
    simp [putRow']
  | v :: r, k, cells, h => by
    simp only [List.length_cons] at h
    simp only [List.zipIdx_cons, List.foldl_cons]
    rw [foldl_set off r (k + 1) _ (by simp; omega)]
    apply Array.ext_getElem?
    intro i
    rw [get_putRow' (by simp; omega), get_putRow' (by simp; omega), Array.getElem?_setIfInBounds]
    simp only [List.length_cons]
    by_cases h1 : i = off + k
    · subst h1
      rw [if_neg (by omega), if_pos rfl, if_pos (by omega), if_pos ⟨by omega, by omega⟩]
      simp
    · by_cases h2 : off + (k + 1) ≤ i ∧ i < off + (k + 1) + r.length
      · rw [if_pos h2, if_pos (by omega), show i - (off + k) = (i - (off + (k + 1))) + 1 by omega]
        simp
      · rw [if_neg h2, if_neg (by omega), if_neg (by omega)]

theorem foldl_put {off : Nat} {v : Value} {cells : Array Value} (h : off + v.cells.size ≤ cells.size) :
    (v.cells.zipIdx.foldl (fun cs (c, j) => cs.setIfInBounds (off + j) c) cells) = putRow' cells off v.cells.toList := by
  have := foldl_set off v.cells.toList 0 cells (by simpa using h)
  rw [← Array.foldl_toList, Array.toList_zipIdx]
  simpa using this

/-- Parts: abstract ones and the values that they stand for. -/
def RelParts (c : Ctx) (objs : Objs) (w : World) : List (Nat × List CV) → List (Nat × Value) → Prop
  | [], [] => True
  | (i, xs) :: r, (j, v) :: s => i = j ∧ RelCs c objs w xs v.cells.toList ∧ RelParts c objs w r s
  | _, _ => False

theorem run_fillX {c : Ctx} {objs : Objs} {w : World} {fs : List (Nat × Nat)} : ∀ (ps : List (Nat × List CV)) (vs : List (Nat × Value)) (xs ys : List CV) (cells : Array Value),
    fillX fs xs ps = some ys → RelParts c objs w ps vs → RelCs c objs w xs cells.toList → ∃ cells', Instr.fill (fun i => fs[i]?) cells vs = some cells' ∧ RelCs c objs w ys cells'.toList
  | [], [], xs, ys, cells, h, _, hr => by obtain rfl := Option.some.inj h; exact ⟨cells, rfl, hr⟩
  | [], _ :: _, _, _, _, _, hp, _ => hp.elim
  | _ :: _, [], _, _, _, _, hp, _ => hp.elim
  | (i, x) :: r, (j, v) :: s, xs, ys, cells, h, hp, hr => by
    obtain ⟨rfl, hv, hp⟩ := hp
    unfold fillX at h
    split at h
    · rename_i off n hf
      split at h
      · rename_i hc
        obtain ⟨h1, h2⟩ := hc
        have hvs : v.cells.size = n := by have := hv.1; simpa [h1] using this
        have hcs : cells.size = xs.length := by have := hr.1; simpa using this
        have hfit : off + v.cells.toList.length ≤ cells.size := by simp [hvs, hcs]; omega
        have hr2 : RelCs c objs w (setCells xs off x) (putRow' cells off v.cells.toList).toList := by
          refine ⟨by rw [length_setCells, Array.length_toList, size_putRow' hfit, hcs], fun k y hy => ?_⟩
          rw [get_setCells _ _ _ _ (by omega)] at hy
          rw [Array.getElem?_toList, get_putRow' hfit]
          have hvl : v.cells.toList.length = x.length := hv.1
          by_cases hk : off ≤ k ∧ k < off + x.length
          · rw [if_pos hk] at hy
            obtain ⟨u, k1, k2⟩ := hv.2 _ _ hy
            exact ⟨u, by rw [if_pos (by omega), k1], k2⟩
          · rw [if_neg hk] at hy
            obtain ⟨u, k1, k2⟩ := hr.2 _ _ hy
            exact ⟨u, by rw [if_neg (by omega), ← k1, Array.getElem?_toList], k2⟩
        obtain ⟨cells', k1, k2⟩ := run_fillX r s _ ys _ h hp hr2
        refine ⟨cells', ?_, k2⟩
        unfold Instr.fill
        simp only [hf]
        rw [if_neg (by simp [hvs]; omega), foldl_put (by omega)]
        exact k1
      · cases h
    · cases h

theorem run_buildX {P : Program} {t : TypeId} {T : TyI} (hT : TyFacts P t T) {fs : List (Nat × Nat)} (hk : T.kind = .struct fs) {c : Ctx} {objs : Objs} {w : World} {ps : List (Nat × List CV)} {ys : List CV} {parts : Array (Nat × Value)}
    (h : fillX fs T.zero ps = some ys) (hp : RelParts c objs w ps parts.toList) : ∃ cells, (∀ w', (Instr.build t parts).run P w' = .ok (.agg cells) w') ∧ RelCs c objs w ys cells.toList := by
  obtain ⟨fields, h1, hm⟩ := und_of_kind_struct hT hk
  have hz : RelCs c objs w T.zero hT.z.cells.toList := by
    rw [hT.zeros]
    refine ⟨by simp, fun i x hx => ?_⟩
    simp only [List.getElem?_map, Option.map_eq_some_iff] at hx
    obtain ⟨u, h1, rfl⟩ := hx
    exact ⟨u, h1, rel_constCV _ _ _ _ (hT.ones u (List.mem_of_getElem? h1))⟩
  obtain ⟨cells, h2, h3⟩ := run_fillX ps parts.toList _ _ _ h hp hz
  refine ⟨cells, fun w' => run_build w' t parts cells ?_, h3⟩
  unfold Program.built
  simp only [hT.info, h1, hT.zero, hm]
  simpa using h2

theorem run_build_arr {P : Program} {t e : TypeId} {n : Nat} {T E : TyI} (hT : TyFacts P t T) (hk : T.kind = .array n e) (hE : TyFacts P e E) {c : Ctx} {objs : Objs} {w : World} {parts : Array (Nat × Value)} (hp : parts.toList = []) :
    (Instr.build t parts).run P w = .ok (.agg hT.z.cells) w ∧ RelCs c objs w T.zero hT.z.cells.toList := by
  refine ⟨?_, ?_⟩
  · simp [Instr.build, hT.run_zero, run_underlying (und_of_kind_array hT hk), hE.run_sizeOf, hp, Instr.fill]
  · rw [hT.zeros]
    refine ⟨by simp, fun i x hx => ?_⟩
    simp only [List.getElem?_map, Option.map_eq_some_iff] at hx
    obtain ⟨u, h1, rfl⟩ := hx
    exact ⟨u, h1, rel_constCV _ _ _ _ (hT.ones u (List.mem_of_getElem? h1))⟩

theorem run_fill_slice {c : Ctx} {objs : Objs} {w : World} {e : Nat} : ∀ (ps : List (Nat × List CV)) (vs : List (Nat × Value)) (xs ys : List (List DC)) (cells : Array Value),
    buildSliceX e xs ps = some ys → RelParts c objs w ps vs → RepRow w c.R e xs cells.toList → ∃ cells', Instr.fill (fun i => some (i * e, e)) cells vs = some cells' ∧ RepRow w c.R e ys cells'.toList ∧ ys.length = xs.length
  | [], [], xs, ys, cells, h, _, hr => by obtain rfl := Option.some.inj h; exact ⟨cells, rfl, hr, rfl⟩
  | [], _ :: _, _, _, _, _, hp, _ => hp.elim
  | _ :: _, [], _, _, _, _, hp, _ => hp.elim
  | (i, x) :: r, (j, v) :: s, xs, ys, cells, h, hp, hr => by
    obtain ⟨rfl, hv, hp⟩ := hp
    unfold buildSliceX at h
    split at h
    · rename_i ds hds
      split at h
      · rename_i hc
        obtain ⟨h1, h2⟩ := hc
        obtain ⟨d1, d2⟩ := dcsOf_spec hds
        have hvl : v.cells.toList.length = x.length := hv.1
        have hvs : v.cells.size = e := by have := hvl; simp at this; omega
        have hcs : cells.size = xs.length * e := by have := hr.len; simpa using this
        have hm : (i + 1) * e ≤ xs.length * e := Nat.mul_le_mul_right e h2
        rw [Nat.succ_mul] at hm
        have hset := hr.set (vs := v.cells.toList) h2 h1 (by simp [hvs]) (fun j d hd => by
          have hj := (List.getElem?_eq_some_iff.1 hd).1
          obtain ⟨d', k1, k2⟩ := d2 j x[j] (List.getElem?_eq_getElem (by omega))
          rw [k1] at hd
          obtain rfl := Option.some.inj hd
          obtain ⟨u, m1, m2⟩ := hv.2 j _ (List.getElem?_eq_getElem (by omega))
          exact ⟨u, m1, rep_dcOf k2 m2⟩)
        have heq : (putRow' cells (i * e) v.cells.toList).toList = cells.toList.take (i * e) ++ v.cells.toList ++ cells.toList.drop (i * e + e) := by simp [putRow', hvs]
        rw [← heq] at hset
        obtain ⟨cells', k1, k2, k3⟩ := run_fill_slice r s _ ys _ h hp hset
        refine ⟨cells', ?_, k2, by rw [k3]; simp⟩
        unfold Instr.fill
        simp only
        rw [if_neg (by simp [hvs]; omega), foldl_put (by rw [hvs]; omega)]
        exact k1
      · cases h
    · cases h

theorem zero_row {P : Program} {t : TypeId} {T : TyI} (hT : TyFacts P t T) {c : Ctx} {w : World} {z : List DC} (hz : dcsOf T.zero = some z) (n : Nat) :
    RepRow w c.R T.size (List.replicate n z) ((Array.range (n * T.size)).map (hT.z.cells[· % hT.z.cells.size]!)).toList := by
  have hsz : hT.z.cells.size = T.size := by rw [hT.zsize, hT.size]
  obtain ⟨h1, h2⟩ := dcsOf_spec hz
  have hzl : z.length = T.size := by rw [h1, hT.zeros]; simp [hsz]
  refine ⟨by simp, fun x hx => by rw [List.eq_of_mem_replicate hx, hzl], fun i j d hd => ?_⟩
  have hlens : ∀ x ∈ List.replicate n z, x.length = T.size := fun x hx => by rw [List.eq_of_mem_replicate hx, hzl]
  obtain ⟨k1, k2, k3⟩ := row_lt hlens hd
  rw [List.length_replicate] at k1 k3
  simp only [List.getElem?_replicate, k1, if_true, Option.bind_some] at hd
  have hj : j < hT.z.cells.size := by omega
  have hzero : T.zero[j]? = some (constCV hT.z.cells[j]) := by rw [hT.zeros]; simp [hj]
  obtain ⟨d', m1, m2⟩ := h2 j _ hzero
  rw [m1] at hd
  obtain rfl := Option.some.inj hd
  refine ⟨hT.z.cells[j], ?_, rep_dcOf (c := c) (objs := []) m2 (rel_constCV _ _ _ _ (hT.ones _ (by simp)))⟩
  have hmod : (i * T.size + j) % T.size = j := by rw [Nat.mul_comm, Nat.mul_add_mod, Nat.mod_eq_of_lt k2]
  simp [k3, hsz, hmod, getElem!_pos hT.z.cells j hj]

/-- Elements of a row of one's own, set to nought. -/
theorem run_clear_sl {P : Program} {t te : TypeId} {E : TyI} (hu : P.underlying t = some (.slice te)) (hE : TyFacts P te E) (hpos : 0 < E.size) (ty : TypeId)
    {c : Ctx} {objs : Objs} {w : World} {o ver off len : Nat} {cap : Option Nat} {xs : List (List DC)} {z : List DC} {u : Value} (hr : RelObjs c objs w) (hz : dcsOf E.zero = some z)
    (hob : objs[o]? = some (ver, .arr E.size xs)) (hol : off + len ≤ xs.length) (hs : RelCV c objs w (.sl o ver E.size off len cap) u) :
    ∃ w', (Builtin.clear_ #[t] ty #[u]).run P w = .ok (.tuple #[]) w' ∧ Ext objs.length c objs w c (objs.set o (ver, .arr E.size (spliceL xs (List.replicate len z) off))) w' ∧
      RelObjs c (objs.set o (ver, .arr E.size (spliceL xs (List.replicate len z) off))) w' := by
  have hlive : Live objs o ver := ⟨_, hob, by simp⟩
  obtain ⟨a, cp, rfl, h2, h3, h4⟩ := hs.2.2 hlive
  by_cases h0 : len = 0
  · subst h0
    have e1 : spliceL xs (List.replicate 0 z) off = xs := by unfold spliceL; simp
    have e2 : objs.set o (ver, .arr E.size xs) = objs := by
      apply List.ext_getElem?
      intro i
      by_cases e : o = i
      · subst e; rw [List.getElem?_set_self (List.getElem?_eq_some_iff.1 hob).1, hob]
      · rw [List.getElem?_set_ne e]
    rw [e1, e2]
    refine ⟨w, ?_, Ext.refl _ _ _ _, hr⟩
    cases a <;> simp [Builtin.clear_, run_underlying hu]
  · obtain ⟨bk, base, cs, T', g1, rfl, g3, g4⟩ := h4 (by omega)
    have hzr := zero_row hE (c := c) (w := w) hz len
    obtain ⟨k1, k2, k3⟩ := splice_ok (p := off) hr hob g1 g3 hzr (by simpa using hol)
    refine ⟨_, ?_, k1, k2⟩
    have hst := run_storeCells_put (P := P) g3 _ k3 (hzr.one hpos)
    have hzs : hE.z.cells.size = E.size := by rw [hE.zsize, hE.size]
    obtain ⟨m, rfl⟩ : ∃ m, len = m + 1 := ⟨len - 1, by omega⟩
    have hzc : (Builtin.zeroCells hE.z.cells (m + 1)).toList = ((Array.range ((m + 1) * E.size)).map (hE.z.cells[· % hE.z.cells.size]!)).toList := by
      unfold Builtin.zeroCells
      rw [hzs]
    simp only [Builtin.clear_, hE.run_zero, run_underlying hu, hzc, hst, Sem.run_bind, Sem.run_pure, Result.andThen_ok, List.getElem?_toArray, List.getElem?_cons_zero]

theorem new_row {c : Ctx} {objs : Objs} {w : World} {e len cap : Nat} {T : TypeId} {ys : List (List DC)} {cells : Array Value} (hr : RelObjs c objs w) (hrow : RepRow w c.R e ys cells.toList) (hlen : ys.length = cap) (hle : len ≤ cap) :
    ∃ c', Ext objs.length c objs w c' (objs ++ [(0, .arr e ys)]) (w.alloc (.cells cells T)) ∧ RelObjs c' (objs ++ [(0, .arr e ys)]) (w.alloc (.cells cells T)) ∧
      RelCV c' (objs ++ [(0, .arr e ys)]) (w.alloc (.cells cells T)) (.sl objs.length 0 e 0 len (some cap)) (.slice (some ⟨w.heap.size, 0, none⟩) len cap) := by
  have hE := new_ext (c := c) (objs := objs) (w := w) (ob := .cells cells T) (x := (0, .arr e ys))
  have hsz : cells.size = ys.length * e := by have := hrow.len; simpa using this
  refine ⟨_, hE, new_objs hr (relOB_row (b := w.heap.size) (base := 0) (by simp [Ctx.at]) (heap_alloc_new w _) (hrow.ext hE hr) (by omega) (fun p u hp => by rw [Nat.zero_add]; simpa using hp)),
    rfl, ⟨0, .arr e ys, by simp, Nat.le_refl _⟩, fun _ => ⟨_, cap, rfl, hle, by rintro c' ⟨rfl⟩; rfl, fun _ => ⟨w.heap.size, 0, cells, T, by simp [Ctx.at], by simp, heap_alloc_new w _, by rw [hsz, hlen]; simp⟩⟩⟩

theorem new_grid {c : Ctx} {objs : Objs} {w : World} {e len cap : Nat} {T : TypeId} {ys : List (List DC)} {cells : Array Value} (hr : RelObjs c objs w) (hrow : RepRow w c.R e ys cells.toList) (hlen : ys.length = cap) (hle : len ≤ cap) :
    ∃ c', Ext objs.length c objs w c' (objs ++ [(0, .grid e (ys.map (·.map GC.d)))]) (w.alloc (.cells cells T)) ∧ RelObjs c' (objs ++ [(0, .grid e (ys.map (·.map GC.d)))]) (w.alloc (.cells cells T)) ∧
      RelCV c' (objs ++ [(0, .grid e (ys.map (·.map GC.d)))]) (w.alloc (.cells cells T)) (.sl objs.length 0 e 0 len (some cap)) (.slice (some ⟨w.heap.size, 0, none⟩) len cap) := by
  have hE := new_ext (c := c) (objs := objs) (w := w) (ob := .cells cells T) (x := (0, .grid e (ys.map (·.map GC.d))))
  have hsz : cells.size = ys.length * e := by have := hrow.len; simpa using this
  refine ⟨_, hE, new_objs hr ⟨w.heap.size, 0, cells, T, by simp [Ctx.at], heap_alloc_new w _, by simp [hsz], ?_, fun i j g hg => ?_, fun p b' base' h => ?_, fun p p' b' base' base'' h => ?_, fun p x h => ?_⟩,
    rfl, ⟨0, _, by simp; rfl, Nat.le_refl _⟩, fun _ => ⟨_, cap, rfl, hle, by rintro c' ⟨rfl⟩; rfl, fun _ => ⟨w.heap.size, 0, cells, T, by simp [Ctx.at], by simp, heap_alloc_new w _, by rw [hsz, hlen]; simp⟩⟩⟩
  · intro x hx
    obtain ⟨y, hy, rfl⟩ := List.mem_map.1 hx
    simpa using hrow.lens y hy
  · simp only [List.getElem?_map] at hg
    cases hy : ys[i]? with
    | none => simp [hy] at hg
    | some y =>
      rw [hy] at hg
      simp only [Option.map_some, Option.bind_some, List.getElem?_map, Option.map_eq_some_iff] at hg
      obtain ⟨d, hd, rfl⟩ := hg
      obtain ⟨u, k1, k2⟩ := hrow.rep i j d (by simp [hy, hd])
      exact ⟨u, by simpa using k1, hE.rep hr k2⟩
  · simp [Ctx.at] at h
  · simp [Ctx.at] at h
  · simp [Ctx.at] at h

theorem wrap_i64 (x : Int) (h0 : -9223372036854775808 ≤ x) (h1 : x ≤ 9223372036854775807) : IntKind.i64.wrap x = x := by
  have h : IntKind.i64.wrap x = if x % 18446744073709551616 ≥ 9223372036854775808 then x % 18446744073709551616 - 18446744073709551616 else x % 18446744073709551616 := by
    simp [IntKind.wrap, IntKind.bits, IntKind.signed]
  rw [h]
  split <;> omega

theorem run_makeSlice' {P : Program} {t e : TypeId} {E : TyI} (hu : P.underlying t = some (.slice e)) (hE : TyFacts P e E) (hpos : 0 < E.size) {w : World} {k k' : IntKind} {l cp : Int} (h0 : 0 ≤ l) (h1 : l ≤ cp) (h2 : cp * E.bytes ≤ 2 ^ 46) (h3 : cp ≤ 2 ^ 46) :
    (Instr.makeSlice t (.int k l) (.int k' cp)).run P w = .ok (.slice (some ⟨w.heap.size, 0, none⟩) l.toNat cp.toNat) (w.alloc (.cells ((Array.range (cp.toNat * E.size)).map (hE.z.cells[· % hE.z.cells.size]!)) e)) := by
  have hw : ∀ x : Int, 0 ≤ x → x ≤ 2 ^ 46 → IntKind.i64.wrap x = x := by
    intro x h1 h2
    exact wrap_i64 x (by omega) (by omega)
  have hask : ∀ n w', (askRoom n).run P w' = .ok () w' := by
    intro n w'
    unfold askRoom
    split <;> simp [mark, Sem.run]
  have hb : hE.i.bytes = E.bytes := hE.bytes.symm
  have hsz : hE.z.cells.size = E.size := by rw [hE.zsize, hE.size]
  have hl : (E.bytes : Int) * l ≤ 2 ^ 46 := by
    have : l * (E.bytes : Int) ≤ cp * E.bytes := Int.mul_le_mul_of_nonneg_right h1 (by omega)
    rw [Int.mul_comm]; omega
  have hc : (E.bytes : Int) * cp ≤ 2 ^ 46 := by rw [Int.mul_comm]; omega
  have t1 : ¬ (281474976710656 : Int) < (E.bytes : Int) * cp := by omega
  have t2 : ¬ cp < 0 := by omega
  have t3 : ¬ l < 0 := by omega
  have t4 : ¬ cp < l := by omega
  by_cases hz : cp.toNat * E.size = 0
  · have hcp : cp.toNat = 0 := by
      rcases Nat.mul_eq_zero.1 hz with h | h
      · exact h
      · omega
    simp [Instr.makeSlice, run_underlying hu, asInt, asIntOf, hE.run_typeInfo, hE.run_sizeOf, hb, hw l h0 (by omega), hw cp (by omega) h3, t1, t2, t3, t4, hask, newRow, hcp]
    congr 2
    apply Array.ext'
    simp
  · simp [Instr.makeSlice, run_underlying hu, asInt, asIntOf, hE.run_typeInfo, hE.run_sizeOf, hE.run_zero, hb, hw l h0 (by omega), hw cp (by omega) h3, t1, t2, t3, t4, hask, newRow, hz]

end Go.Proofs.Ytbmaofepmheeeaa

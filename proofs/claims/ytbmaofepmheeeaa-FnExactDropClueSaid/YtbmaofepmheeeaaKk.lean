/- The executor is sound: operations, regions, code, calls. -/
import Derived.Test.YtbmaofepmheeeaaKj
namespace Go.Proofs.Ytbmaofepmheeeaa
open Go Go.RowKit

theorem cells_of {c : Ctx} {objs : Objs} {w : World} {x : SV} {cs : List CV} {v : Value} (h : x.cells = some cs) (hx : RelSV c objs w x v) : RelCs c objs w cs v.cells.toList := by
  unfold SV.cells at h
  split at h
  · rename_i x
    obtain rfl := Option.some.inj h
    have h1 : RelCV c objs w x v := hx
    have hone := h1.one
    have hc : v.cells = #[v] := by cases v <;> first | rfl | cases hone
    rw [hc]
    refine ⟨rfl, fun i y hy => ?_⟩
    cases i with
    | zero => simp only [List.getElem?_cons_zero, Option.some.injEq] at hy; subst hy; exact ⟨v, rfl, h1⟩
    | succ i => simp at hy
  · rename_i xs
    obtain rfl := Option.some.inj h
    obtain ⟨vs, rfl, h1, h2⟩ := hx
    refine ⟨by simpa [Value.cells] using h1, fun i y hy => ?_⟩
    obtain ⟨u, k1, k2⟩ := h2 i y hy
    exact ⟨u, by simpa [Value.cells] using k1, k2⟩
  · cases h

theorem rel_agg {c : Ctx} {objs : Objs} {w : World} {xs : List CV} {us : Array Value} (h : RelCs c objs w xs us.toList) : RelV1 c objs w (.agg xs) (.agg us) :=
  ⟨us, rfl, by simpa using h.1, fun i x hx => by obtain ⟨u, k1, k2⟩ := h.2 i x hx; exact ⟨u, by simpa using k1, k2⟩⟩

theorem args_of {c : Ctx} {st : St} {a : Act} {w : World} (hr : Rel c st a w) : ∀ {xs : List Operand} {vs : List V1}, argsX st xs = some vs → xs.length = vs.length ∧ ∀ (i : Nat) x, vs[i]? = some x → ∃ u, (xs.map a.eval)[i]? = some u ∧ RelV1 c st.objs w x u
  | [], vs, h => by obtain rfl := Option.some.inj h; exact ⟨rfl, by simp⟩
  | x :: r, vs, h => by
    unfold argsX at h
    split at h
    · rename_i v vs' h1 h2
      obtain rfl := Option.some.inj h
      obtain ⟨k1, k2⟩ := args_of hr h2
      refine ⟨by simp [k1], fun i y hy => ?_⟩
      cases i with
      | zero =>
        simp only [List.getElem?_cons_zero, Option.some.injEq] at hy
        subst hy
        have := hr.eval x
        rw [h1] at this
        exact ⟨_, rfl, this⟩
      | succ i => simpa using k2 i y hy
    · cases h

theorem caps_of {c : Ctx} {st : St} {a : Act} {w : World} (hr : Rel c st a w) : ∀ {xs : List Operand} {vs : List (Nat × Nat × Nat)}, capsX st xs = some vs → xs.length = vs.length ∧ ∀ (i o ver off : Nat), vs[i]? = some (o, ver, off) → ∃ u, (xs.map a.eval)[i]? = some u ∧ PtrIs c st.objs o ver off u
  | [], vs, h => by obtain rfl := Option.some.inj h; exact ⟨rfl, by simp⟩
  | x :: r, vs, h => by
    unfold capsX at h
    split at h
    · rename_i o ver off vs' h1 h2
      obtain rfl := Option.some.inj h
      obtain ⟨k1, k2⟩ := caps_of hr h2
      refine ⟨by simp [k1], fun i o' ver' off' hy => ?_⟩
      cases i with
      | zero =>
        simp only [List.getElem?_cons_zero, Option.some.injEq, Prod.mk.injEq] at hy
        obtain ⟨rfl, rfl, rfl⟩ := hy
        have := hr.eval x
        rw [h1] at this
        exact ⟨_, rfl, this⟩
      | succ i => simpa using k2 i o' ver' off' hy
    · cases h

theorem parts_of {c : Ctx} {st : St} {a : Act} {w : World} (hr : Rel c st a w) : ∀ {xs : List (Nat × Operand)} {ps : List (Nat × List CV)}, partsX st xs = some ps → RelParts c st.objs w ps (xs.map fun (i, x) => (i, a.eval x))
  | [], ps, h => by obtain rfl := Option.some.inj h; exact trivial
  | (i, x) :: r, ps, h => by
    unfold partsX at h
    split at h
    · rename_i cs ps' h1 h2
      obtain rfl := Option.some.inj h
      exact ⟨rfl, cells_of h1 (hr.eval x), parts_of hr h2⟩
    · cases h

theorem intOf_eval {c : Ctx} {st : St} {a : Act} {w : World} (hr : Rel c st a w) {x : Operand} {n : Int} (h : intOfSV (st.eval x) = some n) : ∃ k, a.eval x = .int k n := by
  have hx := hr.eval x
  unfold intOfSV at h
  split at h
  · rename_i k m heq
    rw [heq] at hx
    obtain rfl := Option.some.inj h
    exact ⟨k, Rep.v_inv hx⟩
  · cases h

theorem optInt_of {c : Ctx} {st : St} {a : Act} {w : World} (hr : Rel c st a w) {x : Option Operand} {n : Option Int} (h : optInt st x = some n) : IntOpt n (x.map a.eval) := by
  cases x with
  | none => obtain rfl := Option.some.inj h; exact trivial
  | some x =>
    simp only [optInt, Option.map_eq_some_iff] at h
    obtain ⟨m, h1, rfl⟩ := h
    obtain ⟨k, h2⟩ := intOf_eval hr h1
    simp only [Option.map_some, h2]
    exact rfl

/-- What the walk of an operation leaves to be shown. -/
def Steps1 (c : Ctx) (objs : Objs) (w : World) (k : SV → Objs → Prop) (v : Value) (w' : World) : Prop :=
  ∃ c' objs' sv, Ext objs.length c objs w c' objs' w' ∧ RelObjs c' objs' w' ∧ RelSV c' objs' w' sv v ∧ k sv objs'

theorem Steps1.same {c : Ctx} {objs : Objs} {w : World} {k : SV → Objs → Prop} {v : Value} {sv : SV} (hr : RelObjs c objs w) (hv : RelSV c objs w sv v) (hk : k sv objs) : Steps1 c objs w k v w :=
  ⟨c, objs, sv, Ext.refl _ _ _ _, hr, hv, hk⟩

theorem one_of {c : Ctx} {st : St} {a : Act} {w : World} (hr : Rel c st a w) {x : Operand} {v : V1} (h : st.eval x = .one v) : RelV1 c st.objs w v (a.eval x) := by
  have := hr.eval x; rw [h] at this; exact this

theorem calls_enter {P : Program} {f : FuncId} {args : Array Value} {w : World} (h : enterable P f = true) : (callFunc f args).run P w = .ok (.enter f args) w := by
  unfold enterable at h
  split at h
  · rename_i fn hf
    simp only [Bool.and_eq_true, bne_iff_ne, ne_eq] at h
    obtain ⟨h1, h2⟩ := h
    obtain ⟨b, hb⟩ := Option.isSome_iff_exists.1 h1
    simp [callFunc, program, Sem.run, hf, h2, hb]
  · cases h

theorem builtinX_sound {G : Gen} {b : Builtin} {ts : Array TypeId} {ty : TypeId} {consts : Array Bool} {args : List V1} {vals : Array Value} {c : Ctx} {objs : Objs} {w : World} {k : SV → Objs → Prop}
    (hr : RelObjs c objs w) (h : builtinX G b ts.toList args objs k) (hl : vals.size = args.length) (hv : ∀ (i : Nat) x, args[i]? = some x → ∃ u, vals[i]? = some u ∧ RelV1 c objs w x u) :
    ∃ v w', (builtin b ts ty consts vals).run G.P w = .ok (.value v) w' ∧ Steps1 c objs w k v w' := by
  unfold builtinX at h
  split at h
  · rename_i t r x hts
    split at h
    · rename_i T hT
      obtain ⟨hT⟩ := tyX_facts (G.ok _ _ hT)
      obtain ⟨u, h1, h2⟩ := hv 0 _ rfl
      have hvals : vals = #[u] := by
        apply Array.ext_getElem?
        intro i
        cases i with
        | zero => exact h1
        | succ i => rw [Array.getElem?_eq_none (by simp [hl])]; simp
      have ht0 : ts[0]? = some t := by rw [← Array.getElem?_toList, hts]; rfl
      obtain ⟨v, z, k1, k2, k3⟩ := run_lenX (P := G.P) hT ts ht0 ty h h2
      refine ⟨v, w, ?_, .same hr (sv := .one (.c z)) k2 k3⟩
      simp [builtin, hvals, k1 w (SameOld.refl w)]
    · exact h.elim
  · rename_i t t' r s x hts
    split at h
    · rename_i T T' hT hT'
      obtain ⟨hT⟩ := tyX_facts (G.ok _ _ hT)
      obtain ⟨hT'⟩ := tyX_facts (G.ok _ _ hT')
      split at h
      · rename_i e e' hk hk'
        split at h
        · rename_i E hE
          obtain ⟨hE⟩ := tyX_facts (G.ok _ _ hE)
          replace h := chkP_iff.1 h; obtain ⟨hpos, h⟩ := h
          obtain ⟨u, h1, h2⟩ := hv 0 _ rfl
          obtain ⟨v, h3, h4⟩ := hv 1 _ rfl
          have hvals : vals = #[u, v] := by
            apply Array.ext_getElem?
            intro i
            match i with
            | 0 => exact h1
            | 1 => exact h3
            | i + 2 => rw [Array.getElem?_eq_none (by simp [hl])]; simp
          have hts' : ∃ tail, ts.toList = t :: t' :: tail := ⟨r, hts⟩
          have hu := und_of_kind_slice hT hk
          have hu' := und_of_kind_slice hT' hk'
          have ht0 : ts[0]? = some t := by rw [← Array.getElem?_toList, hts]; rfl
          have ht1 : ts[1]? = some t' := by rw [← Array.getElem?_toList, hts]; rfl
          have hconv : ∀ a b, Builtin.append_ ts ty #[a, b] = Builtin.append_ #[t, t'] ty #[a, b] := by
            intro a b
            unfold Builtin.append_
            simp [ht0, ht1]
          unfold appendX at h
          obtain ⟨hok, h⟩ := h
          split at h
          · rename_i ys hy
            have nilcase : ∀ (w0 : World) (a : Option Addr), u = .slice a 0 0 → ys.length * E.bytes ≤ 2 ^ 40 → ys.length ≤ 2 ^ 40 → k (.one (.c (.sl objs.length 1 E.size 0 ys.length none))) (objs ++ [(1, .arr E.size ys)]) →
                ∃ v_1 w', (builtin .append ts ty consts vals).run G.P w = .ok (.value v_1) w' ∧ Steps1 c objs w k v_1 w' := by
              intro _ a hu0 hb hb2 hk0
              obtain ⟨hE1, hr1⟩ := ghost_ext hr 0 E.size
              have hx1 := hE1.relCV (Nat.le_refl _) hr h4
              have hob : (objs ++ [(0, OB.arr E.size [])])[objs.length]? = some (0, OB.arr E.size []) := by simp
              have hsl : RelCV (c.at objs.length none) (objs ++ [(0, .arr E.size [])]) w (.sl objs.length 0 E.size 0 0 none) u := by
                subst hu0
                exact ⟨rfl, ⟨_, _, hob, Nat.le_refl _⟩, fun _ => ⟨a, 0, rfl, Nat.le_refl _, by simp [capOk], fun h => by omega⟩⟩
              have hcont : ∀ {x : CV} {zs : List (List DC)}, contentX objs E.size x = some zs → RelCV c objs w x v → contentOK objs x → contentX (objs ++ [(0, .arr E.size [])]) E.size x = some zs ∧ contentOK (objs ++ [(0, .arr E.size [])]) x := by
                intro x zs hz hx hxo
                cases x with
                | sl o ver e'' off len cap =>
                  have hlt := hx.2.1.lt
                  simp only [contentX, contentOK, objRd, objAt, List.getElem?_append_left hlt] at hz hxo ⊢
                  exact ⟨hz, hxo⟩
                | d y => cases y <;> exact ⟨hz, hxo⟩
                | _ => exact ⟨hz, hxo⟩
              obtain ⟨hy1, hok1⟩ := hcont hy h4 hok
              obtain ⟨r, c', w', m1, m2, m3, m4⟩ := run_append_sl (P := G.P) hu ⟨_, hu'⟩ hE hpos ty hr1 hob (by simp) hy1 hok1 (by simpa using hb) (by simpa using hb2) hsl hx1
              have hset : (objs ++ [(0, OB.arr E.size [])]).set objs.length (0 + 1, .arr E.size ((([] : List (List DC)).drop 0).take 0 ++ ys)) = objs ++ [(1, .arr E.size ys)] := by
                rw [List.set_append_right _ _ (Nat.le_refl _)]; simp
              rw [hset] at m2 m3 m4
              refine ⟨r, w', by simp [builtin, hvals, hconv, m1], c', _, .one (.c (.sl objs.length 1 E.size 0 ys.length none)), hE1.trans (m2.lower (by simp)) (Nat.le_refl _), m3, ?_, hk0⟩
              have hz : (0 + ys.length) = ys.length := by omega
              rw [hz] at m4
              exact m4
            split at h
            · obtain ⟨hb, hb2, hk0⟩ := h
              exact nilcase w none h2 hb hb2 hk0
            · obtain ⟨a, ha⟩ := h2
              obtain ⟨hb, hb2, hk0⟩ := h
              exact nilcase w a ha hb hb2 hk0
            · rename_i o ver e'' off len cap
              split at h
              · rename_i cp hin
                obtain rfl : cap = some cp := by
                  unfold inPlace at hin
                  split at hin
                  · split at hin
                    · exact hin
                    · cases hin
                  · cases hin
                split at h
                · rename_i e3 xs hob
                  replace h := chkP_iff.1 h; obtain ⟨rfl, h⟩ := h
                  replace h := chkP_iff.1 h; obtain ⟨he3, hol, hcp, hb, hb2, hk0⟩ := h
                  rw [he3] at hob
                  obtain ⟨r, w', m1, m2, m3, m4⟩ := run_append_in (P := G.P) hu ⟨_, hu'⟩ hE hpos ty hr (objAt_some hob) hol hcp hy hok hb hb2 h2 h4
                  exact ⟨r, w', by simp [builtin, hvals, hconv, m1], c, _, .one (.c (.sl o ver E.size off (len + ys.length) (some cp))), m2, m3, m4, hk0⟩
                · exact h.elim
              · split at h
                · rename_i e3 xs hob
                  replace h := chkP_iff.1 h; obtain ⟨rfl, h⟩ := h
                  replace h := chkP_iff.1 h; obtain ⟨he3, hol, hb, hb2, hk0⟩ := h
                  rw [he3] at hob
                  obtain ⟨r, c', w', m1, m2, m3, m4⟩ := run_append_sl (P := G.P) hu ⟨_, hu'⟩ hE hpos ty hr (objAt_some hob) hol hy hok hb hb2 h2 h4
                  exact ⟨r, w', by simp [builtin, hvals, hconv, m1], c', _, .one (.c (.sl o (ver + 1) E.size 0 (len + ys.length) none)), m2, m3, m4, hk0⟩
                · exact h.elim
            · exact h.elim
          · exact h.elim
        · exact h.elim
      · exact h.elim
    · exact h.elim
  · rename_i t t' r s x hts
    split at h
    · rename_i T T' hT hT'
      obtain ⟨hT⟩ := tyX_facts (G.ok _ _ hT)
      obtain ⟨hT'⟩ := tyX_facts (G.ok _ _ hT')
      split at h
      · rename_i e e' hk hk'
        split at h
        · rename_i E hE
          obtain ⟨hE⟩ := tyX_facts (G.ok _ _ hE)
          replace h := chkP_iff.1 h; obtain ⟨hpos, h⟩ := h
          obtain ⟨u, h1, h2⟩ := hv 0 _ rfl
          obtain ⟨v, h3, h4⟩ := hv 1 _ rfl
          have hvals : vals = #[u, v] := by
            apply Array.ext_getElem?
            intro i
            match i with
            | 0 => exact h1
            | 1 => exact h3
            | i + 2 => rw [Array.getElem?_eq_none (by simp [hl])]; simp
          have hu := und_of_kind_slice hT hk
          have ht0 : ts[0]? = some t := by rw [← Array.getElem?_toList, hts]; rfl
          unfold copyX at h
          obtain ⟨hok, h⟩ := h
          split at h
          · rename_i ys hy
            split at h
            · rename_i o ver e'' off len cap
              split at h
              · rename_i e3 xs hob
                replace h := chkP_iff.1 h; obtain ⟨rfl, h⟩ := h
                replace h := chkP_iff.1 h; obtain ⟨he3, hol, hle, hk0⟩ := h
                rw [he3] at hob
                obtain ⟨w', m1, m2, m3⟩ := run_copy_sl (P := G.P) (t' := t') hu hE hpos ty hr (objAt_some hob) hol hy hok hle h2 h4
                have hconv : Builtin.copy_ ts ty #[u, v] = Builtin.copy_ #[t, t'] ty #[u, v] := by
                  unfold Builtin.copy_
                  simp [ht0]
                exact ⟨_, w', by simp [builtin, hvals, hconv, m1], c, _, .one (.c (vI ys.length)), m2, m3, relV (objs := objs.set o (ver, .arr E.size (spliceL xs ys off))) _ rfl, hk0⟩
              · exact h.elim
            · exact h.elim
          · exact h.elim
        · exact h.elim
      · exact h.elim
    · exact h.elim
  · rename_i t r x hts
    split at h
    · rename_i T hT
      obtain ⟨hT⟩ := tyX_facts (G.ok _ _ hT)
      split at h
      · rename_i e hk
        split at h
        · rename_i E hE
          obtain ⟨hE⟩ := tyX_facts (G.ok _ _ hE)
          replace h := chkP_iff.1 h; obtain ⟨hpos, h⟩ := h
          obtain ⟨u, h1, h2⟩ := hv 0 _ rfl
          have hvals : vals = #[u] := by
            apply Array.ext_getElem?
            intro i
            cases i with
            | zero => exact h1
            | succ i => rw [Array.getElem?_eq_none (by simp [hl])]; simp
          have hu := und_of_kind_slice hT hk
          have ht0 : ts[0]? = some t := by rw [← Array.getElem?_toList, hts]; rfl
          unfold clearX at h
          split at h
          · rename_i z o ver e'' off len cap hz
            split at h
            · rename_i e3 xs hob
              replace h := chkP_iff.1 h; obtain ⟨rfl, h⟩ := h
              replace h := chkP_iff.1 h; obtain ⟨he3, hol, hk0⟩ := h
              rw [he3] at hob
              obtain ⟨w', m1, m2, m3⟩ := run_clear_sl (P := G.P) hu hE hpos ty hr hz (objAt_some hob) hol h2
              have hconv : Builtin.clear_ ts ty #[u] = Builtin.clear_ #[t] ty #[u] := by
                unfold Builtin.clear_
                simp [ht0]
              exact ⟨.tuple #[], w', by simp [builtin, hvals, hconv, m1], c, _, .tup [], m2, m3, ⟨#[], rfl, rfl, fun i x h => by simp at h⟩, hk0⟩
            · exact h.elim
          · exact h.elim
        · exact h.elim
      · exact h.elim
    · exact h.elim
  · rename_i a b
    obtain ⟨u, h1, h2⟩ := hv 0 _ rfl
    obtain ⟨v, h3, h4⟩ := hv 1 _ rfl
    obtain rfl := Rep.v_inv h2
    obtain rfl := Rep.v_inv h4
    have hvals : vals.toList = [.int .i64 a, .int .i64 b] := by
      apply List.ext_getElem?
      intro i
      match i with
      | 0 => simpa using h1
      | 1 => simpa using h3
      | i + 2 => rw [List.getElem?_eq_none (by simp [hl])]; simp
    exact ⟨_, w, by simp [builtin, Builtin.min_, hvals, Builtin.min2], .same hr (sv := .one (.c (vI (if b < a then b else a)))) (relV (objs := objs) _ rfl) h⟩
  · rename_i a b
    obtain ⟨u, h1, h2⟩ := hv 0 _ rfl
    obtain ⟨v, h3, h4⟩ := hv 1 _ rfl
    obtain rfl := Rep.v_inv h2
    obtain rfl := Rep.v_inv h4
    have hvals : vals.toList = [.int .i64 a, .int .i64 b] := by
      apply List.ext_getElem?
      intro i
      match i with
      | 0 => simpa using h1
      | 1 => simpa using h3
      | i + 2 => rw [List.getElem?_eq_none (by simp [hl])]; simp
    exact ⟨_, w, by simp [builtin, Builtin.max_, hvals, Builtin.max2], .same hr (sv := .one (.c (vI (if b > a then b else a)))) (relV (objs := objs) _ rfl) h⟩
  · exact h.elim

end Go.Proofs.Ytbmaofepmheeeaa

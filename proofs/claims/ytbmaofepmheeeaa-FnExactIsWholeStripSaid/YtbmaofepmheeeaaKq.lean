/- The executor is sound: regions that draw their order. -/
import Derived.Test.YtbmaofepmheeeaaKl
namespace Go.Proofs.Ytbmaofepmheeeaa
open Go Go.RowKit

theorem quiet_sound {G : Gen} {o : Oper} {st : St} {c : Ctx} {a : Act} {w : World} {k : SV → Objs → Prop} (h : opX G o st k) (hq : quietOp o = true) (hr : Rel c st a w) :
    ∃ v sv, (∀ w', SameOld w w' → (execOp a.eval o).run G.P w' = .ok (.value v) w') ∧ RelSV c st.objs w sv v ∧ k sv st.objs := by
  unfold quietOp at hq
  split at hq
  · rename_i x ho
    simp only [opX.eq_def, ho] at h
    exact ⟨_, _, fun w' _ => by simp [execOp, ho], hr.eval x, h⟩
  · rename_i x ho
    simp only [opX.eq_def, ho] at h
    exact ⟨_, _, fun w' _ => by simp [execOp, ho], hr.eval x, h⟩
  · rename_i cc x y ho
    simp only [opX.eq_def, ho] at h
    split at h
    · rename_i t hc
      have hcv := Rep.v_inv (one_of hr hc)
      cases t with
      | true => exact ⟨_, _, fun w' _ => by simp [execOp, ho, hcv, asBool], hr.eval x, Br.yes h rfl⟩
      | false => exact ⟨_, _, fun w' _ => by simp [execOp, ho, hcv, asBool], hr.eval y, Br.no h rfl⟩
    · exact h.elim
  · rename_i t x ho
    simp only [opX.eq_def, ho] at h
    split at h
    · rename_i T p hT hx
      obtain ⟨hT⟩ := tyX_facts (G.ok _ _ hT)
      obtain ⟨v, z, h1, h2, h3⟩ := run_loadX (P := G.P) hT hr.objs h (one_of hr hx)
      exact ⟨v, .one z, fun w' hs => by simp only [execOp, ho, Sem.run_bind, h1 w' hs, Result.andThen_ok, Sem.run_pure], h2, h3⟩
    · exact h.elim
  · rename_i op t x y yt ho
    simp only [opX.eq_def, ho] at h
    split at h
    · rename_i p q hx hy
      obtain ⟨z, r, h1, h2, h3⟩ := run_binX (P := G.P) (t := t) (xo := x) (yo := y) (isBoolX_und G t) h (one_of hr hx) (one_of hr hy)
      exact ⟨r, .one (.c z), fun w' hs => by simp only [execOp, ho]; rw [Sem.run_bind, h1 w' hs]; rfl, h2, h3⟩
    · exact h.elim
  · rename_i op t x ho
    simp only [opX.eq_def, ho] at h
    split at h
    · rename_i p hx
      obtain ⟨z, r, h1, h2, h3⟩ := run_unX (P := G.P) h (one_of hr hx)
      exact ⟨r, .one (.c z), fun w' hs => by simp only [execOp, ho, Sem.run_bind, h1 w' hs, Result.andThen_ok, Sem.run_pure], h2, h3⟩
    · exact h.elim
  · rename_i t x f ho
    simp only [opX.eq_def, ho] at h
    split at h
    · rename_i T p hT hx
      obtain ⟨hT⟩ := tyX_facts (G.ok _ _ hT)
      obtain ⟨v, z, h1, h2, h3⟩ := run_fieldX (P := G.P) hT h (one_of hr hx)
      exact ⟨v, .one (.c z), fun w' hs => by simp only [execOp, ho, Sem.run_bind, h1 w' hs, Result.andThen_ok, Sem.run_pure], h2, h3⟩
    · exact h.elim
  · rename_i t x i ho
    simp only [opX.eq_def, ho] at h
    split at h
    · rename_i T p j hT hx hi
      obtain ⟨hT⟩ := tyX_facts (G.ok _ _ hT)
      split at h
      · rename_i e hk'
        split at h
        · rename_i E hE
          obtain ⟨hE⟩ := tyX_facts (G.ok _ _ hE)
          obtain ⟨r, z, h1, h2, h3⟩ := run_indexX (P := G.P) hT hk' hE (chkP_iff.1 h).2 (chkP_iff.1 h).1 (one_of hr hx) (one_of hr hi)
          exact ⟨r, .one (.c z), fun w' hs => by simp only [execOp, ho, Sem.run_bind, h1 w' hs, Result.andThen_ok, Sem.run_pure], h2, h3⟩
        · exact h.elim
      · rename_i n e hk'
        split at h
        · rename_i E hE
          obtain ⟨hE⟩ := tyX_facts (G.ok _ _ hE)
          obtain ⟨r, z, h1, h2, h3⟩ := run_indexX_array (P := G.P) hT hk' hE h (one_of hr hx) (one_of hr hi)
          exact ⟨r, .one (.c z), fun w' hs => by simp only [execOp, ho, Sem.run_bind, h1 w' hs, Result.andThen_ok, Sem.run_pure], h2, h3⟩
        · exact h.elim
      · exact h.elim
    · exact h.elim
  · rename_i t x lo hi mx ho
    simp only [opX.eq_def, ho] at h
    split at h
    · rename_i T p lo' hi' mx' hT hx hlo hhi hmx
      obtain ⟨hT⟩ := tyX_facts (G.ok _ _ hT)
      split at h
      · rename_i e hk'
        split at h
        · rename_i E hE
          obtain ⟨hE⟩ := tyX_facts (G.ok _ _ hE)
          obtain ⟨r, z, h1, h2, h3⟩ := run_sliceX (P := G.P) (und_of_kind_slice hT hk') hE (optInt_of hr hlo) (optInt_of hr hhi) (optInt_of hr hmx) (chkP_iff.1 h).2 (one_of hr hx)
          exact ⟨r, .one (.c z), fun w' hs => by simp only [execOp, ho, Sem.run_bind, h1 w', Result.andThen_ok, Sem.run_pure], h2, h3⟩
        · exact h.elim
      · rename_i hk'
        obtain ⟨r, z, h1, h2, h3⟩ := run_strSliceX (P := G.P) (und_of_kind_str hT hk') (optInt_of hr hlo) (optInt_of hr hhi) (optInt_of hr hmx) h (one_of hr hx)
        exact ⟨r, .one (.c z), fun w' hs => by simp only [execOp, ho, Sem.run_bind, h1 w', Result.andThen_ok, Sem.run_pure], h2, h3⟩
      · rename_i n e hk'
        split at h
        · rename_i E hE
          obtain ⟨hE⟩ := tyX_facts (G.ok _ _ hE)
          obtain ⟨r, z, h1, h2, h3⟩ := run_sliceArrX (P := G.P) (und_of_kind_array hT hk') hE (optInt_of hr hlo) (optInt_of hr hhi) (optInt_of hr hmx) hr.objs h (one_of hr hx)
          exact ⟨r, .one (.c z), fun w' hs => by simp only [execOp, ho, Sem.run_bind, h1 w', Result.andThen_ok, Sem.run_pure], h2, h3⟩
        · exact h.elim
      · exact h.elim
    · exact h.elim
  · rename_i fo fst caps ho
    cases fo with
    | func f =>
      simp only [opX.eq_def, ho] at h
      split at h
      · rename_i cs hcs
        replace h := chkP_iff.1 h; obtain ⟨hf0, h⟩ := h
        obtain ⟨k1, k2⟩ := caps_of hr hcs
        have hfst : fst = #[] := Array.eq_empty_of_size_eq_zero hf0
        refine ⟨_, .one (.c (.fn f cs)), fun w' hs => by simp [execOp, ho, Instr.makeFunc, hfst], ⟨caps.map a.eval, rfl, by simp; simpa using k1, fun i o ver off hi => ?_⟩, h⟩
        obtain ⟨u, m1, m2⟩ := k2 i o ver off hi
        exact ⟨u, by simpa using m1, m2⟩
      · exact h.elim
    | _ => simp only [opX.eq_def, ho] at h
  · rename_i cl ho
    split at hq
    · rename_i hb
      simp only [opX.eq_def, ho] at h
      unfold callOpX at h
      split at h
      · rename_i args hargs
        obtain ⟨a1, a2⟩ := args_of hr hargs
        simp only [hb] at h
        unfold builtinX at h
        split at h
        · rename_i t r x _ hts
          split at h
          · rename_i T hT
            obtain ⟨hT⟩ := tyX_facts (G.ok _ _ hT)
            obtain ⟨u, h1, h2⟩ := a2 0 _ rfl
            have hvals : cl.args.map a.eval = #[u] := by
              apply Array.ext_getElem?
              intro i
              cases i with
              | zero => simpa using h1
              | succ i => rw [Array.getElem?_eq_none (by simp at a1 ⊢; omega), Array.getElem?_eq_none (by simp)]
            have ht0 : cl.argTypes[0]? = some t := by rw [← Array.getElem?_toList, hts]; rfl
            obtain ⟨v, z, k1, k2, k3⟩ := run_lenX (P := G.P) hT cl.argTypes ht0 o.type h h2
            refine ⟨v, .one (.c z), fun w' hs => ?_, k2, k3⟩
            simp only [execOp, ho, resolve, hb, Sem.run_bind, Sem.run_pure, Result.andThen_ok, invoke, hvals]
            simp [builtin, k1 w' hs]
          · exact h.elim
        all_goals simp_all
      · exact h.elim
    · cases hq
  · cases hq

theorem callPX_sound {G : Gen} {o : Oper} {st : St} {c : Ctx} {a : Act} {w : World} {k : SV → Objs → Prop} {next : Act → World → Prop} {Q : Exit → Act → World → Prop}
    (h : callPX G o st k) (hr : Rel c st a w) (hk : ∀ v w' c' objs' sv, SameOld w w' → Ext st.objs.length c st.objs w c' objs' w' → RelObjs c' objs' w' → RelSV c' objs' w' sv v → k sv objs' → next (a.put o.dst v) w') : o.wp G.P a w next Q := by
  unfold callPX at h
  split at h
  · rename_i cl ho
    split at h
    · rename_i args hargs
      obtain ⟨a1, a2⟩ := args_of hr hargs
      have hsz : (cl.args.map a.eval).size = args.length := by simp; simpa using a1
      have hval : ∀ (i : Nat) x, args[i]? = some x → ∃ u, (cl.args.map a.eval)[i]? = some u ∧ RelV1 c st.objs w x u := by
        intro i x hx
        obtain ⟨u, m1, m2⟩ := a2 i x hx
        exact ⟨u, by simpa using m1, m2⟩
      split at h
      · rename_i fo hcal
        split at h
        · rename_i f caps hf
          obtain ⟨vs, e1, e2, e3⟩ := one_of hr hf
          obtain ⟨hent, hcall⟩ := h
          have hc := hcall c w ((cl.args.map a.eval) ++ vs) hr.objs (by simp [e2]; simpa using hsz) (by
            intro i x hx
            by_cases hi : i < args.length
            · rw [List.getElem?_append_left hi] at hx
              rw [Array.getElem?_append_left (by omega)]
              exact hval i x hx
            · rw [List.getElem?_append_right (by omega)] at hx
              rw [Array.getElem?_append_right (by omega), hsz]
              simp only [List.getElem?_map, Option.map_eq_some_iff] at hx
              obtain ⟨⟨o', ver, off⟩, hx1, rfl⟩ := hx
              obtain ⟨u, m1, m2⟩ := e3 _ _ _ _ hx1
              exact ⟨u, m1, m2⟩)
          have hrun : (execOp a.eval o).run G.P w = .ok (.enter f ((cl.args.map a.eval) ++ vs)) w := by
            simp only [execOp, ho, resolve, hcal, e1, Deferred.ofValue, Sem.run_bind, Sem.run_pure, Result.andThen_ok, invoke]
            have := calls_enter (P := G.P) (args := (cl.args.map a.eval) ++ vs) (w := w) hent
            simpa using this
          unfold Oper.wp
          rw [hrun]
          refine hc.mono ?_
          rintro e w' ⟨v, c', objs', sv, rfl, k0, k1, k2, k3, k4⟩
          exact hk v w' c' objs' sv k0 k1 k2 k3 k4
        · exact h.elim
      · exact h.elim
    · exact h.elim
  · exact h.elim

theorem Rel.put' {c c' : Ctx} {env : List (Nat × SV)} {objs : Objs} {n : Nat} {a : Act} {w w' : World} {objs' : Objs} {sv : SV} {v : Value} {dst : Option Tmp} (hr : Rel c ⟨env, objs, n⟩ a w) (hE : Ext objs.length c objs w c' objs' w') (hr' : RelObjs c' objs' w')
    (hv : RelSV c' objs' w' sv v) (hd : dstOK dst n = true) : Rel c' ⟨putE dst sv env, objs', n⟩ (a.put dst v) w' := by
  cases dst with
  | none =>
    refine ⟨hr', fun t ht => ?_, hr.size, hr.defers⟩
    obtain ⟨u, h1, h2⟩ := hr.env t ht
    exact ⟨u, h1, hE.relSV (Nat.le_refl _) hr.objs h2⟩
  | some d =>
    have hd' : d < n := by simpa [dstOK, Nat.blt_eq] using hd
    refine ⟨hr', fun t ht => ?_, by simpa [Act.put] using hr.size, hr.defers⟩
    simp only [putE, getE, Act.put]
    by_cases e : t = d
    · subst e
      rw [if_pos rfl]
      have hlt : t < a.tmps.size := by rw [hr.size]; exact hd'
      exact ⟨v, by simp [hlt], hv⟩
    · rw [if_neg e]
      obtain ⟨u, h1, h2⟩ := hr.env t ht
      refine ⟨u, ?_, hE.relSV (Nat.le_refl _) hr.objs h2⟩
      rw [Array.getElem?_setIfInBounds_ne (Ne.symm e)]
      exact h1

theorem relSV_undef {c : Ctx} {objs : Objs} {w : World} : RelSV c objs w (.tup []) undef := ⟨#[], rfl, rfl, fun i x h => by simp at h⟩

theorem und_at {c : Ctx} {env : List (Nat × SV)} {objs : Objs} {n d : Nat} {a : Act} {w : World} (hr : Rel c ⟨env, objs, n⟩ a w) (h : isUnd (if d < n then getE env d else .un) = true) : d < n ∧ a.tmps[d]? = some undef := by
  have hlt : d < n := by
    by_cases hlt : d < n
    · exact hlt
    · rw [if_neg hlt] at h; cases h
  rw [if_pos hlt] at h
  obtain ⟨u, h1, h2⟩ := hr.env d hlt
  dsimp only at h2
  unfold isUnd at h
  split at h
  · rename_i he
    rw [he] at h2
    obtain ⟨vs, rfl, h3, _⟩ := h2
    have : vs = #[] := Array.eq_empty_of_size_eq_zero h3
    subst this
    exact ⟨hlt, h1⟩
  · cases h

theorem grdX_sound {ops : Array Oper} {o : Oper} {env : List (Nat × SV)} {objs : Objs} {n : Nat} {run skip : List (Nat × SV) → Prop} (h : grdX ops.toList o env n run skip) {c : Ctx} {a : Act} {w : World}
    (hr : Rel c ⟨env, objs, n⟩ a w) (hdst : dstOK o.dst n = true) :
    (Region.wanted o (yielded ops a.tmps) = true ∧ ∃ env1, Rel c ⟨env1, objs, n⟩ a w ∧ run env1) ∨
    (Region.wanted o (yielded ops a.tmps) = false ∧ ∃ env2, Rel c ⟨putE o.dst (.tup []) env2, objs, n⟩ (a.put o.dst undef) w ∧ skip env2) := by
  unfold grdX at h
  split at h
  · rename_i hg
    exact .inl ⟨by simp [Region.wanted, hg], env, hr, h⟩
  · rename_i j want hg
    split at h
    · rename_i d hd
      split at h
      · rename_i b hb
        have hbv : (if d < n then getE env d else .un) = .one (.c (.d (.v (.bool b)))) := by
          unfold boolOfSV at hb
          split at hb
          · rename_i heq; rw [heq]; rw [Option.some.inj hb]
          · cases hb
        have hlt : d < n := by
          by_cases hlt : d < n
          · exact hlt
          · rw [if_neg hlt] at hbv; cases hbv
        rw [if_pos hlt] at hbv
        obtain ⟨u, hu1, hu2⟩ := hr.env d hlt
        dsimp only at hu2
        rw [hbv] at hu2
        obtain rfl := Rep.v_inv hu2
        have hy : yielded ops a.tmps j = some b := by
          unfold yielded
          rw [Array.getElem?_toList] at hd
          rw [hd]
          simp [hu1]
        have know : ∀ z : Bool, b = z → Rel c ⟨(d, .one (.c (vB z))) :: env, objs, n⟩ a w := by
          intro z hz
          subst hz
          refine ⟨hr.objs, fun t ht => ?_, hr.size, hr.defers⟩
          simp only [getE]
          by_cases e : t = d
          · subst e
            rw [if_pos rfl]
            exact ⟨_, hu1, relV (objs := objs) _ rfl⟩
          · rw [if_neg e]
            exact hr.env t ht
        by_cases hw : b = want
        · exact .inl ⟨by simp [Region.wanted, hg, hy, hw], _, know want hw, Gd.yes h hw⟩
        · have hw2 : b = !want := by cases b <;> cases want <;> simp_all
          refine .inr ⟨by simp [Region.wanted, hg, hy, hw], _, ?_, Gd.no h hw⟩
          exact (know (!want) hw2).put' (dst := o.dst) (sv := .tup []) (v := undef) (Ext.refl _ c objs w) hr.objs relSV_undef hdst
      · split at h
        · rename_i hund
          obtain ⟨hlt, hu⟩ := und_at hr hund
          have hy : yielded ops a.tmps j = none := by
            unfold yielded
            rw [Array.getElem?_toList] at hd
            rw [hd]
            simp [hu, undef]
          refine .inr ⟨by simp [Region.wanted, hg, hy], _, ?_, h⟩
          exact hr.put' (dst := o.dst) (sv := .tup []) (v := undef) (Ext.refl _ c objs w) hr.objs relSV_undef hdst
        · exact h.elim
    · exact h.elim

theorem wpAnyH_weak {P : Program} {md : Region.Mode} {ops : Array Oper} {Q : Exit → Act → World → Prop} {S S' : World → Prop} (hS : ∀ w, S' w → S w) : ∀ (fuel : Nat) (listed : Array Bool) (a : Act) (w : World),
    wpAnyH P md ops Q S' fuel listed a w → wpAnyH P md ops Q S fuel listed a w
  | 0, _, _, _, h => h
  | fuel + 1, _, _, _, h => ⟨h.1, fun i hi => wpOp_mono (fun a' w' h' => ⟨hS _ h'.1, wpAnyH_weak hS fuel _ a' w' h'.2⟩) (h.2 i hi)⟩

theorem runP_sound {G : Gen} {ops : Array Oper} {Q : Exit → Act → World → Prop} (hQ : ∀ c a w, ¬ Q (.panic c) a w) (hs : Region.noSelect ops = true) : ∀ (p : Plan) (fuel : Nat) (listed : Array Bool) (st : St) (k : St → Prop), planOK ops fuel listed p = true → runP G ops.toList p st k →
    ∀ (c : Ctx) (a : Act) (w : World), Rel c st a w → (∀ st' c' a' w', Ext st.objs.length c st.objs w c' st'.objs w' → Rel c' st' a' w' → k st' → Q .normal a' w') → wpAnyH G.P .any ops Q (SameOld w) fuel listed a w := by
  -- one loud operation
  have loud : ∀ (i : Nat) (p : Plan), (∀ (fuel : Nat) (listed : Array Bool) (st : St) (k : St → Prop), planOK ops fuel listed p = true → runP G ops.toList p st k →
      ∀ (c : Ctx) (a : Act) (w : World), Rel c st a w → (∀ st' c' a' w', Ext st.objs.length c st.objs w c' st'.objs w' → Rel c' st' a' w' → k st' → Q .normal a' w') → wpAnyH G.P .any ops Q (SameOld w) fuel listed a w) →
      ∀ (fuel : Nat) (listed : Array Bool) (env : List (Nat × SV)) (objs : Objs) (n : Nat) (k : St → Prop), planOK ops fuel (listed.setIfInBounds i true) p = true →
      (match getO ops.toList i with
        | some o => chkP (dstOK o.dst n = true) <|
            grdX ops.toList o env n (fun env => callPX G o ⟨env, objs, n⟩ fun v objs => handX o env n v objs fun st => runP G ops.toList p st k) (fun env => runP G ops.toList p ⟨putE o.dst (.tup []) env, objs, n⟩ k)
        | none => False) →
      ∀ (c : Ctx) (a : Act) (w : World), Rel c ⟨env, objs, n⟩ a w → (∀ st' c' a' w', Ext objs.length c objs w c' st'.objs w' → Rel c' st' a' w' → k st' → Q .normal a' w') →
      wpOp G.P ops Q i (fun a' w' => SameOld w w' ∧ wpAnyH G.P .any ops Q (SameOld w) fuel (listed.setIfInBounds i true) a' w') a w := by
    intro i p ih fuel listed env objs n k hp h c a w hr hk
    split at h
    · rename_i o hi
      rw [getO_eq, Array.getElem?_toList] at hi
      replace h := chkP_iff.1 h
      obtain ⟨hdst, h⟩ := h
      unfold wpOp
      simp only [hi]
      rcases grdX_sound h hr hdst with ⟨hw, env1, hr1, hrun⟩ | ⟨hw, env2, hr2, hskip⟩
      · rw [if_pos hw]
        refine .inl (callPX_sound hrun hr1 ?_)
        intro v w' c' objs' sv hso hE hr' hv hkk
        rw [handX_eq] at hkk
        exact ⟨hso, wpAnyH_weak (fun w'' h'' => hso.trans h'') _ _ _ _ (ih fuel _ _ k hp hkk c' _ w' (hr1.put' hE hr' hv hdst) (fun st' c'' a' w'' hE' hr'' hkkk => hk st' c'' a' w'' (hE.trans hE' hE.len0) hr'' hkkk))⟩
      · rw [if_neg (by rw [hw]; exact Bool.false_ne_true)]
        exact ⟨SameOld.refl w, ih fuel _ _ k hp hskip c _ w hr2 (fun st' c' a' w' hE hr' hkkk => hk st' c' a' w' hE hr' hkkk)⟩
    · exact h.elim
  intro p
  induction p with
  | done =>
    intro fuel listed st k hp h c a w hr hk
    have hrd : Region.ready .any ops listed = [] := by cases fuel <;> simpa [planOK] using hp
    exact wpAnyH_done hrd (hk st c a w (Ext.refl _ _ _ _) hr h) _
  | take i p ih =>
    rintro fuel listed ⟨env, objs, n⟩ k hp h c a w hr hk
    cases fuel with
    | zero => simp [planOK] at hp
    | succ fuel =>
      simp only [planOK, Bool.and_eq_true] at hp
      obtain ⟨⟨hf, hc⟩, hp⟩ := hp
      unfold runP at h
      split at h
      · rename_i o hi
        rw [getO_eq, Array.getElem?_toList] at hi
        replace h := chkP_iff.1 h
        obtain ⟨⟨hdst, hq⟩, h⟩ := h
        rcases grdX_sound h hr hdst with ⟨hw, env1, hr1, hrun⟩ | ⟨hw, env2, hr2, hskip⟩
        · obtain ⟨v, sv, h1, h2, h3⟩ := quiet_sound hrun hq hr1
          rw [handX_eq] at h3
          refine wpAnyH_take (v := v) hi hs hf hc (fun c a w hh => absurd hh (hQ c _ w)) (.inl ⟨hw, h1⟩) (SameOld.refl w) ?_
          exact ih fuel _ _ k hp h3 c _ w (hr1.put' (Ext.refl _ _ _ _) hr.objs h2 hdst) (fun st' c' a' w' hE hr' hkk => hk st' c' a' w' hE hr' hkk)
        · refine wpAnyH_take (v := undef) hi hs hf hc (fun c a w hh => absurd hh (hQ c _ w)) (.inr ⟨hw, rfl⟩) (SameOld.refl w) ?_
          exact ih fuel _ _ k hp hskip c _ w hr2 (fun st' c' a' w' hE hr' hkk => hk st' c' a' w' hE hr' hkk)
      · exact h.elim
  | one i p ih =>
    rintro fuel listed ⟨env, objs, n⟩ k hp h c a w hr hk
    cases fuel with
    | zero => simp [planOK] at hp
    | succ fuel =>
      simp only [planOK, Bool.and_eq_true, beq_iff_eq] at hp
      refine wpAnyH_all hp.1 (by simp) (fun j hj => ?_)
      obtain rfl := List.mem_singleton.1 hj
      unfold runP at h
      exact loud _ p ih fuel listed env objs n k hp.2 h c a w hr hk
  | two i p j q ih ihq =>
    rintro fuel listed ⟨env, objs, n⟩ k hp h c a w hr hk
    cases fuel with
    | zero => simp [planOK] at hp
    | succ fuel =>
      simp only [planOK, Bool.and_eq_true, beq_iff_eq] at hp
      obtain ⟨⟨hp1, hp2⟩, hp3⟩ := hp
      refine wpAnyH_all hp1 (by simp) (fun l hl => ?_)
      unfold runP at h
      rcases List.mem_cons.1 hl with rfl | hl
      · exact loud _ p ih fuel listed env objs n k hp2 h.1 c a w hr hk
      · obtain rfl := List.mem_singleton.1 hl
        exact loud _ q ihq fuel listed env objs n k hp3 h.2 c a w hr hk
  | three i p j q l r _ _ _ =>
    rintro fuel listed ⟨env, objs, n⟩ k hp h c a w hr hk
    exact h.elim

theorem pure_sound {G : Gen} {o : Oper} {st : St} {c : Ctx} {a : Act} {w : World} {k : SV → Objs → Prop} (h : opX G o st k) (hq : pureOp o = true) (hr : Rel c st a w) :
    ∃ v sv, (∀ w', (execOp a.eval o).run G.P w' = .ok (.value v) w') ∧ RelSV c st.objs w sv v ∧ k sv st.objs := by
  unfold pureOp at hq
  split at hq
  · rename_i x ho
    simp only [opX.eq_def, ho] at h
    exact ⟨_, _, fun w' => by simp [execOp, ho], hr.eval x, h⟩
  · rename_i x ho
    simp only [opX.eq_def, ho] at h
    exact ⟨_, _, fun w' => by simp [execOp, ho], hr.eval x, h⟩
  · rename_i cc x y ho
    simp only [opX.eq_def, ho] at h
    split at h
    · rename_i t hc
      have hcv := Rep.v_inv (one_of hr hc)
      cases t with
      | true => exact ⟨_, _, fun w' => by simp [execOp, ho, hcv, asBool], hr.eval x, Br.yes h rfl⟩
      | false => exact ⟨_, _, fun w' => by simp [execOp, ho, hcv, asBool], hr.eval y, Br.no h rfl⟩
    · exact h.elim
  · cases hq

theorem runW_sound {G : Gen} {ops : Array Oper} {Q : Exit → Act → World → Prop} (hQ : ∀ c a w, ¬ Q (.panic c) a w) (hs : Region.noSelect ops = true) : ∀ (p : Plan) (fuel : Nat) (listed : Array Bool) (st : St) (k : St → Prop), planOK ops fuel listed p = true → runW G ops.toList p st k →
    ∀ (c : Ctx) (a : Act) (w : World), Rel c st a w → (∀ st' c' a' w', Ext st.objs.length c st.objs w c' st'.objs w' → Rel c' st' a' w' → k st' → Q .normal a' w') → wpAnyH G.P .any ops Q (fun _ => True) fuel listed a w := by
  have loud : ∀ (i : Nat) (p : Plan), (∀ (fuel : Nat) (listed : Array Bool) (st : St) (k : St → Prop), planOK ops fuel listed p = true → runW G ops.toList p st k →
      ∀ (c : Ctx) (a : Act) (w : World), Rel c st a w → (∀ st' c' a' w', Ext st.objs.length c st.objs w c' st'.objs w' → Rel c' st' a' w' → k st' → Q .normal a' w') → wpAnyH G.P .any ops Q (fun _ => True) fuel listed a w) →
      ∀ (fuel : Nat) (listed : Array Bool) (env : List (Nat × SV)) (objs : Objs) (n : Nat) (k : St → Prop), planOK ops fuel (listed.setIfInBounds i true) p = true →
      (match getO ops.toList i with
        | some o => chkP (dstOK o.dst n = true) <|
            grdX ops.toList o env n (fun env => opX G o ⟨env, objs, n⟩ fun v objs => handX o env n v objs fun st => runW G ops.toList p st k) (fun env => runW G ops.toList p ⟨putE o.dst (.tup []) env, objs, n⟩ k)
        | none => False) →
      ∀ (c : Ctx) (a : Act) (w : World), Rel c ⟨env, objs, n⟩ a w → (∀ st' c' a' w', Ext objs.length c objs w c' st'.objs w' → Rel c' st' a' w' → k st' → Q .normal a' w') →
      wpOp G.P ops Q i (fun a' w' => True ∧ wpAnyH G.P .any ops Q (fun _ => True) fuel (listed.setIfInBounds i true) a' w') a w := by
    intro i p ih fuel listed env objs n k hp h c a w hr hk
    split at h
    · rename_i o hi
      rw [getO_eq, Array.getElem?_toList] at hi
      replace h := chkP_iff.1 h
      obtain ⟨hdst, h⟩ := h
      unfold wpOp
      simp only [hi]
      rcases grdX_sound h hr hdst with ⟨hw, env1, hr1, hrun⟩ | ⟨hw, env2, hr2, hskip⟩
      · rw [if_pos hw]
        refine .inl (opX_sound hrun hr1 ?_)
        rintro v w' ⟨c', objs', sv, hE, hr', hv, hkk⟩
        rw [handX_eq] at hkk
        exact ⟨trivial, ih fuel _ _ k hp hkk c' _ w' (hr1.put' hE hr' hv hdst) (fun st' c'' a' w'' hE' hr'' hkkk => hk st' c'' a' w'' (hE.trans hE' hE.len0) hr'' hkkk)⟩
      · rw [if_neg (by rw [hw]; exact Bool.false_ne_true)]
        exact ⟨trivial, ih fuel _ _ k hp hskip c _ w hr2 (fun st' c' a' w' hE hr' hkkk => hk st' c' a' w' hE hr' hkkk)⟩
    · exact h.elim
  intro p
  induction p with
  | done =>
    intro fuel listed st k hp h c a w hr hk
    have hrd : Region.ready .any ops listed = [] := by cases fuel <;> simpa [planOK] using hp
    exact wpAnyH_done hrd (hk st c a w (Ext.refl _ _ _ _) hr h) _
  | take i p ih =>
    rintro fuel listed ⟨env, objs, n⟩ k hp h c a w hr hk
    cases fuel with
    | zero => simp [planOK] at hp
    | succ fuel =>
      simp only [planOK, Bool.and_eq_true] at hp
      obtain ⟨⟨hf, hc⟩, hp⟩ := hp
      unfold runW at h
      split at h
      · rename_i o hi
        rw [getO_eq, Array.getElem?_toList] at hi
        replace h := chkP_iff.1 h
        obtain ⟨⟨hdst, hq⟩, h⟩ := h
        rcases grdX_sound h hr hdst with ⟨hw, env1, hr1, hrun⟩ | ⟨hw, env2, hr2, hskip⟩
        · obtain ⟨v, sv, h1, h2, h3⟩ := pure_sound hrun hq hr1
          rw [handX_eq] at h3
          refine wpAnyH_take (v := v) hi hs hf hc (fun c a w hh => absurd hh (hQ c _ w)) (.inl ⟨hw, fun w' _ => h1 w'⟩) trivial ?_
          exact ih fuel _ _ k hp h3 c _ w (hr1.put' (Ext.refl _ _ _ _) hr.objs h2 hdst) (fun st' c' a' w' hE hr' hkk => hk st' c' a' w' hE hr' hkk)
        · refine wpAnyH_take (v := undef) hi hs hf hc (fun c a w hh => absurd hh (hQ c _ w)) (.inr ⟨hw, rfl⟩) trivial ?_
          exact ih fuel _ _ k hp hskip c _ w hr2 (fun st' c' a' w' hE hr' hkk => hk st' c' a' w' hE hr' hkk)
      · exact h.elim
  | one i p ih =>
    rintro fuel listed ⟨env, objs, n⟩ k hp h c a w hr hk
    cases fuel with
    | zero => simp [planOK] at hp
    | succ fuel =>
      simp only [planOK, Bool.and_eq_true, beq_iff_eq] at hp
      refine wpAnyH_all hp.1 (by simp) (fun j hj => ?_)
      obtain rfl := List.mem_singleton.1 hj
      unfold runW at h
      exact loud _ p ih fuel listed env objs n k hp.2 h c a w hr hk
  | two i p j q ih ihq =>
    rintro fuel listed ⟨env, objs, n⟩ k hp h c a w hr hk
    cases fuel with
    | zero => simp [planOK] at hp
    | succ fuel =>
      simp only [planOK, Bool.and_eq_true, beq_iff_eq] at hp
      obtain ⟨⟨hp1, hp2⟩, hp3⟩ := hp
      refine wpAnyH_all hp1 (by simp) (fun l hl => ?_)
      unfold runW at h
      rcases List.mem_cons.1 hl with rfl | hl
      · exact loud _ p ih fuel listed env objs n k hp2 h.1 c a w hr hk
      · obtain rfl := List.mem_singleton.1 hl
        exact loud _ q ihq fuel listed env objs n k hp3 h.2 c a w hr hk
  | three i p j q l r ih ihq ihr =>
    rintro fuel listed ⟨env, objs, n⟩ k hp h c a w hr hk
    cases fuel with
    | zero => simp [planOK] at hp
    | succ fuel =>
      simp only [planOK, Bool.and_eq_true, beq_iff_eq] at hp
      obtain ⟨⟨⟨hp1, hp2⟩, hp3⟩, hp4⟩ := hp
      refine wpAnyH_all hp1 (by simp) (fun m hm => ?_)
      unfold runW at h
      rcases List.mem_cons.1 hm with rfl | hm
      · exact loud _ p ih fuel listed env objs n k hp2 h.1 c a w hr hk
      · rcases List.mem_cons.1 hm with rfl | hm
        · exact loud _ q ihq fuel listed env objs n k hp3 h.2.1 c a w hr hk
        · obtain rfl := List.mem_singleton.1 hm
          exact loud _ r ihr fuel listed env objs n k hp4 h.2.2 c a w hr hk

/-- What was there stays as it was: so does all that is known of it. -/
theorem rel_sameOld {c : Ctx} {objs : Objs} {w w' : World} (hr : RelObjs c objs w) (h : SameOld w w') (ht : w'.tape = w.tape) (ho : w'.os = w.os) (hp : w'.output = w.output) : Ext objs.length c objs w c objs w' ∧ RelObjs c objs w' := by
  have hE0 : Ext objs.length c objs w c objs w' := by
    refine ⟨h.size, ht, ho, hp, fun b hb _ => h.old b hb, fun b cs T hb => ⟨cs, (h.old b (Array.getElem?_eq_some_iff.1 hb).1).trans hb, rfl⟩, fun _ h => .inl h, fun _ h => h, fun _ h => .inl h, fun _ cur bd _ h => ⟨cur, bd, h, Nat.le_refl _, fun _ h => ⟨h, rfl, fun _ _ h => h⟩⟩⟩
  refine ⟨hE0, fun o ver bd hb => ?_, hr.inj, fun b hb => Nat.lt_of_lt_of_le (hr.rsize b hb) h.size, fun o ver bd b h1 h2 h3 => Nat.lt_of_lt_of_le (hr.lsize o ver bd b h1 h2 h3) h.size, hr.oR⟩
  by_cases hdead : bd = .dead
  · subst hdead; exact trivial
  · exact RelOB.keep hE0 (Nat.le_refl _) hr rfl rfl (fun b hp => h.old b (hr.lsize o ver bd b hb hdead hp)) (hr.ob o ver bd hb)

theorem Rel.sameOld {c : Ctx} {st : St} {a : Act} {w w' : World} (hr : Rel c st a w) (h : SameOld w w') (ht : w'.tape = w.tape) (ho : w'.os = w.os) (hp : w'.output = w.output) : Ext st.objs.length c st.objs w c st.objs w' ∧ Rel c st a w' := by
  obtain ⟨h1, h2⟩ := rel_sameOld hr.objs h ht ho hp
  refine ⟨h1, h2, fun t hlt => ?_, hr.size, hr.defers⟩
  obtain ⟨u, k1, k2⟩ := hr.env t hlt
  exact ⟨u, k1, h1.relSV (Nat.le_refl _) hr.objs k2⟩

theorem drawX_region {G : Gen} {id : Nat} {ops : Array Oper} {st : St} {k : St → Prop} (h : DrawR G ops st k) {c : Ctx} {a : Act} {w : World} (hr : Rel c st a w)
    {Q : Exit → Act → World → Prop} (hk : ∀ st' c' a' w', Ext st.objs.length c st.objs w c' st'.objs w' → Rel c' st' a' w' → k st' → Q .normal a' w') : (Code.region id ops true).wp G.P Q a w := by
  refine wp_mono (Q := fun e a w => match e with | .normal => Q .normal a w | _ => False) ?_ (fun e a w he => by
    cases e with
    | normal => exact he
    | _ => exact he.elim)
  have hso : SameOld w { w with drawn := w.drawn + 1 } := ⟨Nat.le_refl _, fun _ _ => rfl⟩
  obtain ⟨hE, hr'⟩ := hr.sameOld hso rfl rfl rfl
  obtain ⟨hs, p, hp, h | h⟩ := h
  · refine wp_region_held (S := SameOld { w with drawn := w.drawn + 1 }) G.mixed ?_
    exact runP_sound (fun _ _ _ hh => hh) hs p _ _ st k hp h c a _ hr' (fun st' c' a' w' hE' hr'' hkk => hk st' c' a' w' (hE.trans hE' (Nat.le_refl _)) hr'' hkk)
  · refine wp_region_held (S := fun _ => True) G.mixed ?_
    exact runW_sound (fun _ _ _ hh => hh) hs p _ _ st k hp h c a _ hr' (fun st' c' a' w' hE' hr'' hkk => hk st' c' a' w' (hE.trans hE' (Nat.le_refl _)) hr'' hkk)

end Go.Proofs.Ytbmaofepmheeeaa

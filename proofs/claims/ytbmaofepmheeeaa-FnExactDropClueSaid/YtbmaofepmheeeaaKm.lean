/- The executor is sound: regions, code, bodies. -/
import Derived.Test.YtbmaofepmheeeaaKq
import Derived.LoopN
import Derived.Deep.LoopGhost
namespace Go.Proofs.Ytbmaofepmheeeaa
open Go Go.RowKit

theorem Ext.len {c c' : Ctx} {objs objs' : Objs} {w w' : World} (h : Ext objs.length c objs w c' objs' w') : objs.length ≤ objs'.length := by
  rcases Nat.eq_zero_or_pos objs.length with h0 | h0
  · omega
  · have hlt : objs.length - 1 < objs.length := by omega
    obtain ⟨cur', bd', h1, _⟩ := h.refs (objs.length - 1) objs[objs.length - 1].1 objs[objs.length - 1].2 hlt (List.getElem?_eq_getElem hlt)
    have := (List.getElem?_eq_some_iff.1 h1).1
    omega

theorem Ext.len' {n : Nat} {c c' : Ctx} {objs objs' : Objs} {w w' : World} (h : Ext n c objs w c' objs' w') (hn : n ≤ objs.length) : n ≤ objs'.length := by
  rcases Nat.eq_zero_or_pos n with h0 | h0
  · omega
  · have hlt : n - 1 < objs.length := by omega
    obtain ⟨cur', bd', h1, _⟩ := h.refs (n - 1) objs[n - 1].1 objs[n - 1].2 (by omega) (List.getElem?_eq_getElem hlt)
    have := (List.getElem?_eq_some_iff.1 h1).1
    omega

theorem Rel.put {c c' : Ctx} {env : List (Nat × SV)} {objs : Objs} {n : Nat} {a : Act} {w w' : World} {objs' : Objs} {sv : SV} {v : Value} {dst : Option Tmp} (hr : Rel c ⟨env, objs, n⟩ a w) (hE : Ext objs.length c objs w c' objs' w') (hr' : RelObjs c' objs' w')
    (hv : RelSV c' objs' w' sv v) (hd : dstOK dst n = true) : Rel c' ⟨putE dst sv env, objs', n⟩ (a.put dst v) w' := by
  cases dst with
  | none =>
    refine ⟨hr', fun t ht => ?_, hr.size, hr.defers⟩
    obtain ⟨u, h1, h2⟩ := hr.env t ht
    exact ⟨u, h1, hE.relSV (Nat.le_refl _) hr.objs h2⟩
  | some d =>
    have hd' : d < n := by simpa [dstOK, Nat.blt_eq] using hd
    refine ⟨hr', fun t ht => ?_, by simpa [Act.put] using hr.size, hr.defers⟩
    simp only [putE, getE, Act.put]
    by_cases e : t = d
    · subst e
      rw [if_pos rfl]
      have hlt : t < a.tmps.size := by rw [hr.size]; exact hd'
      exact ⟨v, by simp [hlt], hv⟩
    · rw [if_neg e]
      obtain ⟨u, h1, h2⟩ := hr.env t ht
      refine ⟨u, ?_, hE.relSV (Nat.le_refl _) hr.objs h2⟩
      rw [Array.getElem?_setIfInBounds_ne (Ne.symm e)]
      exact h1

theorem opsX_sound {G : Gen} {ops : Array Oper} {Q : Exit → Act → World → Prop} : ∀ (l : List Nat) (r : List Oper) (st : St) (k : St → Prop), (l.map fun i => ops[i]?) = r.map some → opsX G ops.toList r st k →
    ∀ (c : Ctx) (a : Act) (w : World), Rel c st a w → (∀ st' c' a' w', Ext st.objs.length c st.objs w c' st'.objs w' → Rel c' st' a' w' → k st' → Q .normal a' w') → wpOps G.P ops Q l a w
  | [], [], st, k, _, h, c, a, w, hr, hk => hk st c a w (Ext.refl _ _ _ _) hr h
  | [], _ :: _, _, _, hl, _, _, _, _, _, _ => by simp at hl
  | _ :: _, [], _, _, hl, _, _, _, _, _, _ => by simp at hl
  | i :: l, o :: r, ⟨env, objs, n⟩, k, hl, h, c, a, w, hr, hk => by
    simp only [List.map_cons, List.cons.injEq] at hl
    obtain ⟨ho, hl⟩ := hl
    unfold opsX at h
    split at h
    · exact h.elim
    rename_i hdst
    have run : ∀ env1 : List (Nat × SV), Rel c ⟨env1, objs, n⟩ a w → opX G o ⟨env1, objs, n⟩ (fun v objs => handX o env1 n v objs fun st => opsX G ops.toList r st k) → o.wp G.P a w (wpOps G.P ops Q l) Q := by
      intro env1 hr1 hop
      refine opX_sound hop hr1 ?_
      rintro v w' ⟨c', objs', sv, hE, hr', hv, hk'⟩
      rw [handX_eq] at hk'
      exact opsX_sound l r _ k hl hk' c' _ w' (hr1.put hE hr' hv hdst) (fun st' c'' a' w'' hE' hr'' hkk => hk st' c'' a' w'' (hE.trans hE' hE.len) hr'' hkk)
    unfold wpOps
    simp only [ho]
    cases hg : o.guard with
    | none =>
      simp only [hg] at h
      rw [if_pos (by simp [Region.wanted, hg])]
      exact .inl (run env hr h)
    | some g =>
      obtain ⟨j, want⟩ := g
      simp only [hg] at h
      split at h
      · rename_i d hd
        split at h
        · rename_i b hb
          have hbv : (if d < n then getE env d else .un) = .one (.c (.d (.v (.bool b)))) := by
            unfold boolOfSV at hb
            split at hb
            · rename_i heq; rw [heq]; rw [Option.some.inj hb]
            · cases hb
          have hlt : d < n := by
            by_cases hlt : d < n
            · exact hlt
            · rw [if_neg hlt] at hbv; cases hbv
          rw [if_pos hlt] at hbv
          obtain ⟨u, hu1, hu2⟩ := hr.env d hlt
          dsimp only at hu2
          rw [hbv] at hu2
          obtain rfl := Rep.v_inv hu2
          have hy : yielded ops a.tmps j = some b := by
            unfold yielded
            rw [Array.getElem?_toList] at hd
            rw [hd]
            simp [hu1]
          have know : ∀ z : Bool, b = z → Rel c ⟨(d, .one (.c (vB z))) :: env, objs, n⟩ a w := by
            intro z hz
            subst hz
            refine ⟨hr.objs, fun t ht => ?_, hr.size, hr.defers⟩
            simp only [getE]
            by_cases e : t = d
            · subst e
              rw [if_pos rfl]
              exact ⟨_, hu1, relV (objs := objs) _ rfl⟩
            · rw [if_neg e]
              exact hr.env t ht
          by_cases hw : b = want
          · rw [if_pos (by simp [Region.wanted, hg, hy, hw])]
            exact .inl (run ((d, .one (.c (vB want))) :: env) (know want hw) (Gd.yes h hw))
          · rw [if_neg (by simp [Region.wanted, hg, hy, hw])]
            have hw2 : b = !want := by cases b <;> cases want <;> simp_all
            have h3 := Gd.no h hw
            have hr2 := (know (!want) hw2).put (dst := o.dst) (sv := .tup []) (v := undef) (Ext.refl _ c objs w) hr.objs relSV_undef hdst
            exact opsX_sound l r _ k hl h3 c _ w hr2 (fun st' c'' a' w'' hE' hr'' hkk => hk st' c'' a' w'' hE' hr'' hkk)
        · split at h
          · rename_i hund
            obtain ⟨hlt, hu⟩ := und_at hr hund
            have hy : yielded ops a.tmps j = none := by
              unfold yielded
              rw [Array.getElem?_toList] at hd
              rw [hd]
              simp [hu, undef]
            rw [if_neg (by simp [Region.wanted, hg, hy])]
            have hr2 := hr.put (dst := o.dst) (sv := .tup []) (v := undef) (Ext.refl _ c objs w) hr.objs relSV_undef hdst
            exact opsX_sound l r _ k hl h c _ w hr2 (fun st' c'' a' w'' hE' hr'' hkk => hk st' c'' a' w'' hE' hr'' hkk)
          · exact h.elim
      · exact h.elim

def AExit.to : AExit → Exit
  | .normal => .normal
  | .exit id => .exit id
  | .ret => .ret

/-- What follows a piece of code. -/
def After (n0 : Nat) (c : Ctx) (st : St) (w : World) (QX : AExit → St → Prop) (Q : Exit → Act → World → Prop) : Prop :=
  ∀ e st' c' a' w', Ext n0 c st.objs w c' st'.objs w' → Rel c' st' a' w' → n0 ≤ st'.objs.length → QX e st' → Q e.to a' w'

theorem boolOf_eval {c : Ctx} {st : St} {a : Act} {w : World} (hr : Rel c st a w) {x : Operand} {b : Bool} (h : boolOfSV (st.eval x) = some b) : a.eval x = .bool b := by
  have hx := hr.eval x
  unfold boolOfSV at h
  split at h
  · rename_i m heq
    rw [heq] at hx
    obtain rfl := Option.some.inj h
    exact Rep.v_inv hx
  · cases h

theorem codeX_sound {G : Gen} {n0 : Nat} (cd : Code) : ∀ (st : St) (QX : AExit → St → Prop), codeX G n0 cd st QX → n0 ≤ st.objs.length → ∀ (c : Ctx) (a : Act) (w : World), Rel c st a w →
    ∀ Q, After n0 c st w QX Q → cd.wp G.P Q a w := by
  induction cd with
  | skip => intro st QX h hn c a w hr Q hQ; exact wp_skip (hQ .normal st c a w (Ext.refl _ _ _ _) hr hn h)
  | label l => intro st QX h hn c a w hr Q hQ; exact wp_label (hQ .normal st c a w (Ext.refl _ _ _ _) hr hn h)
  | exit id => intro st QX h hn c a w hr Q hQ; exact wp_exit (hQ (.exit id) st c a w (Ext.refl _ _ _ _) hr hn h)
  | ret => intro st QX h hn c a w hr Q hQ; exact wp_ret (hQ .ret st c a w (Ext.refl _ _ _ _) hr hn h)
  | region id ops draw =>
    intro st QX h hn c a w hr Q hQ
    rw [codeX_region] at h
    have fin : ∀ st' c' a' w', Ext st.objs.length c st.objs w c' st'.objs w' → Rel c' st' a' w' → QX .normal st' → Q .normal a' w' := fun st' c' a' w' hE hr' hk =>
      hQ .normal st' c' a' w' (hE.lower hn) hr' (Nat.le_trans hn hE.len) hk
    cases draw with
    | false =>
      refine wp_region (opsX_sound (List.range ops.size) ops.toList st _ ?_ h c a w hr fin)
      apply List.ext_getElem?
      intro i
      by_cases hi : i < ops.size
      · simp [hi]
      · rw [List.getElem?_eq_none (by simp; omega), List.getElem?_eq_none (by simp; omega)]
    | true =>
      exact drawX_region h hr fin
  | seq x y ihx ihy =>
    intro st QX h hn c a w hr Q hQ
    refine wp_seq (ihx st _ h hn c a w hr _ ?_)
    intro e st' c' a' w' hE hr' hn' hq
    cases e with
    | normal =>
      exact ihy st' QX hq hn' c' a' w' hr' Q (fun e st2 c2 a2 w2 hE2 hr2 hn2 hq2 => hQ e st2 c2 a2 w2 (hE.trans hE2 (Nat.le_refl _)) hr2 hn2 hq2)
    | exit id => exact hQ (.exit id) st' c' a' w' hE hr' hn' hq
    | ret => exact hQ .ret st' c' a' w' hE hr' hn' hq
  | cond x y z ihy ihz =>
    intro st QX h hn c a w hr Q hQ
    rw [codeX_cond] at h
    split at h
    · rename_i t ht
      have hb := boolOf_eval hr ht
      cases t with
      | true => exact wp_cond hb (ihy st QX (Br.yes h rfl) hn c a w hr Q hQ)
      | false => exact wp_cond hb (ihz st QX (Br.no h rfl) hn c a w hr Q hQ)
    · exact h.elim
  | block id b ih =>
    intro st QX h hn c a w hr Q hQ
    refine wp_block (ih st _ h hn c a w hr _ ?_)
    intro e st' c' a' w' hE hr' hn' hq
    cases e with
    | normal => exact hQ .normal st' c' a' w' hE hr' hn' hq
    | exit i =>
      dsimp only at hq
      show (if i = id then Q .normal a' w' else Q (.exit i) a' w')
      by_cases e : i = id
      · rw [if_pos e] at hq ⊢
        exact hQ .normal st' c' a' w' hE hr' hn' hq
      · rw [if_neg e] at hq ⊢
        exact hQ (.exit i) st' c' a' w' hE hr' hn' hq
    | ret => exact hQ .ret st' c' a' w' hE hr' hn' hq
  | loop b ih =>
    intro st QX h hn c a w hr Q hQ
    rw [codeX_loop] at h
    unfold loopX at h
    rcases h with ⟨α, m, I, S, x0, h0, hw0, hround⟩ | ⟨n, h⟩
    rotate_left
    · refine wp_loop_rounds n ?_
      have key : ∀ (n : Nat) (st : St) (c1 : Ctx) (a : Act) (w1 : World), iterX (codeX G n0 b) n st QX → n0 ≤ st.objs.length → Rel c1 st a w1 →
          (∀ e st' c' a' w', Ext n0 c1 st.objs w1 c' st'.objs w' → Rel c' st' a' w' → n0 ≤ st'.objs.length → QX e st' → Q e.to a' w') → Code.rounds G.P b Q n a w1 := by
        intro n
        induction n with
        | zero => intro st c1 a w1 h; exact h.elim
        | succ n ihn =>
          intro st c1 a w1 h hn hr hQ
          unfold Code.rounds
          refine ih st _ h hn c1 a w1 hr _ ?_
          intro e st2 c2 a2 w2 hE2 hr2 hn2 hq
          cases e with
          | normal => exact ihn st2 c2 a2 w2 hq hn2 hr2 (fun e st' c' a' w' hE hr' hn' hq' => hQ e st' c' a' w' (hE2.trans hE (Nat.le_refl _)) hr' hn' hq')
          | exit id => exact hQ (.exit id) st2 c2 a2 w2 hE2 hr2 hn2 hq
          | ret => exact hQ .ret st2 c2 a2 w2 hE2 hr2 hn2 hq
      exact key n st c a w h hn hr hQ
    obtain ⟨c0, hE0, hr0⟩ := hw0 c a w hr
    refine wp_loop_ghost (fun n a' w' => ∃ x c', m x = n ∧ I x ∧ Ext n0 c st.objs w c' (S x).objs w' ∧ Rel c' (S x) a' w') (m x0) ⟨x0, c0, rfl, h0, hE0, hr0⟩ ?_
    rintro n a' w' ⟨x, c', rfl, hx, hE, hr'⟩
    have hn' := hE.len' hn
    refine ih (S x) _ (hround x hx) hn' c' a' w' hr' _ ?_
    intro e st2 c2 a2 w2 hE2 hr2 hn2 hq
    cases e with
    | normal =>
      obtain ⟨x', hx', hlt, hw'⟩ := hq
      obtain ⟨c3, hE3, hr3⟩ := hw' c2 a2 w2 hr2
      exact ⟨m x', hlt, x', c3, rfl, hx', (hE.trans hE2 (Nat.le_refl _)).trans hE3 (Nat.le_refl _), hr3⟩
    | exit id => exact hQ (.exit id) st2 c2 a2 w2 (hE.trans hE2 (Nat.le_refl _)) hr2 hn2 hq
    | ret => exact hQ .ret st2 c2 a2 w2 (hE.trans hE2 (Nat.le_refl _)) hr2 hn2 hq
  | rangeFunc f ps as b _ _ => intro st QX h; exact h.elim
  | scope b _ => intro st QX h; exact h.elim
  | goto l => intro st QX h; exact h.elim
  | refuse s => intro st QX h; exact h.elim

def resSem (tmps : Array Value) : ResultVar → Sem Value
  | .tmp t => pure (tmps.getD t undef)
  | .cell x t => do loadVar t (← asAddr (tmps.getD x undef))

theorem results_eq (fn : Func) (tmps : Array Value) : results fn tmps = (do let vs ← fn.results.mapM (resSem tmps); pure (if h : vs.size = 1 then vs[0] else .tuple vs)) := by
  unfold results
  have : (fun x => match x with | .tmp t => pure (tmps.getD t undef) | .cell a t => do loadVar t (← asAddr (tmps.getD a undef)) : ResultVar → Sem Value) = resSem tmps := by
    funext x; cases x <;> rfl
  rw [← this]
  rfl

theorem run_resOne {G : Gen} {c : Ctx} {st : St} {a : Act} {w : World} (hr : Rel c st a w) {r : ResultVar} {K : V1 → Prop} (h : resOneX G st r K) :
    ∃ u v, (resSem a.tmps r).run G.P w = .ok u w ∧ RelV1 c st.objs w v u ∧ K v := by
  unfold resOneX at h
  split at h
  · rename_i t
    split at h
    · rename_i v hv
      exact ⟨_, v, rfl, one_of hr hv, h⟩
    · exact h.elim
  · rename_i x t
    split at h
    · rename_i T y hT hy
      obtain ⟨hT⟩ := tyX_facts (G.ok _ _ hT)
      obtain ⟨v, z, h1, h2, h3⟩ := run_loadX (P := G.P) hT hr.objs h (one_of hr hy)
      replace h1 := h1 w (SameOld.refl w)
      refine ⟨v, z, ?_, h2, h3⟩
      show (do loadVar t (← asAddr (a.eval (.tmp x))) : Sem Value).run G.P w = _
      have : ∃ ad, a.eval (.tmp x) = .pointer (some ad) := by
        unfold Instr.loadAt Instr.sureAddr at h1
        split at h1
        · rename_i ad heq; exact ⟨ad, heq⟩
        · simp [stuck] at h1
      obtain ⟨ad, had⟩ := this
      rw [had] at h1 ⊢
      simpa [Instr.loadAt, Instr.sureAddr, asAddr] using h1
    · exact h.elim

theorem run_resX {G : Gen} {c : Ctx} {st : St} {a : Act} {w : World} (hr : Rel c st a w) : ∀ (rs : List ResultVar) (K : List V1 → Prop), resX G st rs K →
    ∃ us vs, (rs.mapM (resSem a.tmps)).run G.P w = .ok us w ∧
      us.length = vs.length ∧ (∀ (i : Nat) x, vs[i]? = some x → ∃ u, us[i]? = some u ∧ RelV1 c st.objs w x u) ∧ K vs
  | [], K, h => ⟨[], [], by simp, rfl, by simp, h⟩
  | r :: rs, K, h => by
    obtain ⟨u, v, h1, h2, h3⟩ := run_resOne hr h
    obtain ⟨us, vs, k1, k2, k3, k4⟩ := run_resX hr rs _ h3
    refine ⟨u :: us, v :: vs, ?_, by simp [k2], fun i x hx => ?_, k4⟩
    · rw [List.mapM_cons, Sem.run_bind, h1]
      simp only [Result.andThen_ok, Sem.run_bind]
      rw [k1]
      rfl
    · cases i with
      | zero => simp only [List.getElem?_cons_zero, Option.some.injEq] at hx ⊢; subst hx; exact ⟨u, rfl, h2⟩
      | succ i => simpa using k3 i x hx

theorem getE_envOf : ∀ (args : List V1) (n t : Nat), getE (envOf n args) t = if n ≤ t ∧ t < n + args.length then .one (args.getD (t - n) default) else .un
  | [], n, t => by simp [envOf, getE]
  | v :: r, n, t => by
    simp only [envOf, getE, getE_envOf r, List.length_cons]
    by_cases h : t = n
    · subst h
      rw [if_pos rfl, if_pos ⟨by omega, by omega⟩]
      simp
    · rw [if_neg h]
      by_cases h2 : n + 1 ≤ t ∧ t < n + 1 + r.length
      · rw [if_pos h2, if_pos ⟨by omega, by omega⟩, show t - n = (t - (n + 1)) + 1 by omega]
        simp
      · rw [if_neg h2, if_neg (by omega)]

theorem callX_of_body {G : Gen} {f : FuncId} {fn : Func} {cd : Code} {args : List V1} {objs : Objs} {K : SV → Objs → Prop} (hf : G.P.funcs[f]? = some fn) (hb : fn.body = some cd) (hname : (fn.name != "runtime.NumGoroutine") = true)
    (hn : args.length ≤ fn.ntmps) (h : bodyX G fn cd args objs K) : CallX G.P f args objs K := by
  refine ⟨by simp [enterable, hf, hb]; simpa using hname, fun c w vals hr hl hv => calls_of_wp hf hb ?_⟩
  have hR : Rel c { env := envOf 0 args, objs := objs, n := fn.ntmps } { tmps := vals ++ Array.replicate (fn.ntmps - vals.size) undef, defers := [] } w := by
    refine ⟨hr, fun t ht => ?_, by simp [hl]; omega, rfl⟩
    rw [getE_envOf]
    dsimp only at ht ⊢
    by_cases h1 : t < args.length
    · rw [if_pos ⟨by omega, by omega⟩]
      obtain ⟨u, k1, k2⟩ := hv t args[t] (List.getElem?_eq_getElem h1)
      refine ⟨u, by rw [Array.getElem?_append_left (by omega), k1], ?_⟩
      simp only [Nat.sub_zero, List.getD_eq_getElem?_getD, List.getElem?_eq_getElem h1, Option.getD_some]
      exact k2
    · rw [if_neg (by omega)]
      refine ⟨undef, ?_, trivial⟩
      rw [Array.getElem?_append_right (by omega), Array.getElem?_replicate, if_pos (by omega)]
  refine codeX_sound cd _ _ h (Nat.le_refl _) c _ w hR _ ?_
  intro e st' c' a' w' hE hr' _ hq
  have key : (resX G st' fn.results.toList fun vs => K (svOf vs) st'.objs) → a'.defers = [] ∧ ∃ v, (results fn a'.tmps).run G.P w' = .ok v w' ∧ ∃ v' c'' objs'' sv, (Ending.returned v) = .returned v' ∧ Ext objs.length c objs w c'' objs'' w' ∧ RelObjs c'' objs'' w' ∧ RelSV c'' objs'' w' sv v' ∧ K sv objs'' := by
    intro hres
    obtain ⟨us, vs, k1, k2, k3, k4⟩ := run_resX hr' _ _ hres
    have hrun : (results fn a'.tmps).run G.P w' = .ok (if h : us.toArray.size = 1 then us.toArray[0] else .tuple us.toArray) w' := by
      rw [results_eq, Array.mapM_eq_mapM_toList]
      simp only [Sem.run_bind, Sem.run_map]
      rw [k1]
      simp only [Result.andThen_ok]
      split <;> rfl
    refine ⟨hr'.defers, _, hrun, _, c', st'.objs, svOf vs, rfl, hE, hr'.objs, ?_, k4⟩
    match vs, us, k2, k3 with
    | [v], [u], _, k3 =>
      obtain ⟨u', m1, m2⟩ := k3 0 v rfl
      obtain rfl : u = u' := by simpa using m1
      exact m2
    | [], [], _, _ => exact ⟨#[], rfl, rfl, by simp⟩
    | v1 :: v2 :: vs, u1 :: u2 :: us, k2, k3 =>
      rw [dif_neg (by simp)]
      exact ⟨_, rfl, by simpa using k2, fun i x hx => by obtain ⟨u, m1, m2⟩ := k3 i x hx; exact ⟨u, by simpa using m1, m2⟩⟩
  cases e with
  | normal => exact key (by simpa only [fObjs_eq, fSV_eq] using hq)
  | exit id => exact hq.elim
  | ret => exact key (by simpa only [fObjs_eq, fSV_eq] using hq)

end Go.Proofs.Ytbmaofepmheeeaa

/- The executor is sound: regions, code, bodies. -/
import Derived.Test.YtmfdkjjhdjkgpaaQZc
import Derived.LoopN
import Derived.Deep.LoopGhost
import Derived.ChangeArms
import Derived.WideShapes
import Derived.DataReads
import Derived.ChangeOld
namespace Go.Proofs.Ytmfdkjjhdjkgpaa
open Go Go.RowKit

theorem Ext.len {c c' : Ctx} {objs objs' : Objs} {w w' : World} (h : Ext objs.length c objs w c' objs' w') : objs.length ≤ objs'.length := by
  rcases Nat.eq_zero_or_pos objs.length with h0 | h0
  · omega
  · have hlt : objs.length - 1 < objs.length := by omega
    obtain ⟨cur', bd', h1, _⟩ := h.refs (objs.length - 1) objs[objs.length - 1].1 objs[objs.length - 1].2 hlt (List.getElem?_eq_getElem hlt)
    have := (List.getElem?_eq_some_iff.1 h1).1
    omega

theorem Ext.len' {n : Nat} {c c' : Ctx} {objs objs' : Objs} {w w' : World} (h : Ext n c objs w c' objs' w') (hn : n ≤ objs.length) : n ≤ objs'.length := by
  rcases Nat.eq_zero_or_pos n with h0 | h0
  · omega
  · have hlt : n - 1 < objs.length := by omega
    obtain ⟨cur', bd', h1, _⟩ := h.refs (n - 1) objs[n - 1].1 objs[n - 1].2 (by omega) (List.getElem?_eq_getElem hlt)
    have := (List.getElem?_eq_some_iff.1 h1).1
    omega

theorem Rel.put {c c' : Ctx} {env : List (Nat × SV)} {objs : Objs} {n : Nat} {a : Act} {w w' : World} {objs' : Objs} {sv : SV} {v : Value} {dst : Option Tmp} (hr : Rel c ⟨env, objs, n⟩ a w) (hE : Ext objs.length c objs w c' objs' w') (hr' : RelObjs c' objs' w')
    (hv : RelSV c' objs' w' sv v) (hd : dstOK dst n = true) : Rel c' ⟨putE dst sv env, objs', n⟩ (a.put dst v) w' := by
  cases dst with
  | none =>
    refine ⟨hr', fun t ht => ?_, hr.size, hr.defers⟩
    obtain ⟨u, h1, h2⟩ := hr.env t ht
    exact ⟨u, h1, hE.relSV (Nat.le_refl _) hr.objs h2⟩
  | some d =>
    have hd' : d < n := by simpa [dstOK, Nat.blt_eq] using hd
    refine ⟨hr', fun t ht => ?_, by simpa [Act.put] using hr.size, hr.defers⟩
    simp only [putE, getE, Act.put]
    by_cases e : t = d
    · subst e
      rw [if_pos rfl]
      have hlt : t < a.tmps.size := by rw [hr.size]; exact hd'
      exact ⟨v, by simp [hlt], hv⟩
    · rw [if_neg e]
      obtain ⟨u, h1, h2⟩ := hr.env t ht
      refine ⟨u, ?_, hE.relSV (Nat.le_refl _) hr.objs h2⟩
      rw [Array.getElem?_setIfInBounds_ne (Ne.symm e)]
      exact h1

theorem opsX_sound {G : Gen} {ops : Array Oper} {Q : Exit → Act → World → Prop} : ∀ (l : List Nat) (r : List Oper) (st : St) (k : St → Prop), (l.map fun i => ops[i]?) = r.map some → opsX G ops.toList r st k →
    ∀ (c : Ctx) (a : Act) (w : World), Rel c st a w → (∀ st' c' a' w', Ext st.objs.length c st.objs w c' st'.objs w' → Rel c' st' a' w' → k st' → Q .normal a' w') → wpOps G.P ops Q l a w
  | [], [], st, k, _, h, c, a, w, hr, hk => hk st c a w (Ext.refl _ _ _ _) hr h
  | [], _ :: _, _, _, hl, _, _, _, _, _, _ => by simp at hl
  | _ :: _, [], _, _, hl, _, _, _, _, _, _ => by simp at hl
  | i :: l, o :: r, ⟨env, objs, n⟩, k, hl, h, c, a, w, hr, hk => by
    simp only [List.map_cons, List.cons.injEq] at hl
    obtain ⟨ho, hl⟩ := hl
    rw [opsX_cons] at h
    split at h
    · exact h.elim
    rename_i hdst
    have run : ∀ env1 : List (Nat × SV), Rel c ⟨env1, objs, n⟩ a w → opX G o ⟨env1, objs, n⟩ (fun v objs => handX o env1 n v objs fun st => opsX G ops.toList r st k) → o.wp G.P a w (wpOps G.P ops Q l) Q := by
      intro env1 hr1 hop
      refine opX_sound hop hr1 ?_
      rintro v w' ⟨c', objs', sv, hE, hr', hv, hk'⟩
      rw [handX_eq] at hk'
      exact opsX_sound l r _ k hl hk' c' _ w' (hr1.put hE hr' hv hdst) (fun st' c'' a' w'' hE' hr'' hkk => hk st' c'' a' w'' (hE.trans hE' hE.len) hr'' hkk)
    unfold wpOps
    simp only [ho]
    cases hg : o.guard with
    | none =>
      simp only [hg] at h
      rw [if_pos (by simp [Region.wanted, hg])]
      exact .inl (run env hr h)
    | some g =>
      obtain ⟨j, want⟩ := g
      simp only [hg] at h
      split at h
      · rename_i d hd
        split at h
        · rename_i b hb
          have hbv : (if d < n then getE env d else .un) = .one (.c (.d (.v (.bool b)))) := by
            unfold boolOfSV at hb
            split at hb
            · rename_i heq; rw [heq]; rw [Option.some.inj hb]
            · cases hb
          have hlt : d < n := by
            by_cases hlt : d < n
            · exact hlt
            · rw [if_neg hlt] at hbv; cases hbv
          rw [if_pos hlt] at hbv
          obtain ⟨u, hu1, hu2⟩ := hr.env d hlt
          dsimp only at hu2
          rw [hbv] at hu2
          obtain rfl := Rep.v_inv hu2
          have hy : yielded ops a.tmps j = some b := by
            unfold yielded
            rw [Array.getElem?_toList] at hd
            rw [hd]
            simp [hu1]
          have know : ∀ z : Bool, b = z → Rel c ⟨(d, .one (.c (vB z))) :: env, objs, n⟩ a w := by
            intro z hz
            subst hz
            refine ⟨hr.objs, fun t ht => ?_, hr.size, hr.defers⟩
            simp only [getE]
            by_cases e : t = d
            · subst e
              rw [if_pos rfl]
              exact ⟨_, hu1, relV (objs := objs) _ rfl⟩
            · rw [if_neg e]
              exact hr.env t ht
          by_cases hw : b = want
          · rw [if_pos (by simp [Region.wanted, hg, hy, hw])]
            exact .inl (run ((d, .one (.c (vB want))) :: env) (know want hw) (Gd.yes h hw))
          · rw [if_neg (by simp [Region.wanted, hg, hy, hw])]
            have hw2 : b = !want := by cases b <;> cases want <;> simp_all
            have h3 := Gd.no h hw
            have hr2 := (know (!want) hw2).put (dst := o.dst) (sv := .tup []) (v := undef) (Ext.refl _ c objs w) hr.objs relSV_undef hdst
            exact opsX_sound l r _ k hl h3 c _ w hr2 (fun st' c'' a' w'' hE' hr'' hkk => hk st' c'' a' w'' hE' hr'' hkk)
        · split at h
          · rename_i hund
            obtain ⟨hlt, hu⟩ := und_at hr hund
            have hy : yielded ops a.tmps j = none := by
              unfold yielded
              rw [Array.getElem?_toList] at hd
              rw [hd]
              simp [hu, undef]
            rw [if_neg (by simp [Region.wanted, hg, hy])]
            have hr2 := hr.put (dst := o.dst) (sv := .tup []) (v := undef) (Ext.refl _ c objs w) hr.objs relSV_undef hdst
            exact opsX_sound l r _ k hl h c _ w hr2 (fun st' c'' a' w'' hE' hr'' hkk => hk st' c'' a' w'' hE' hr'' hkk)
          · exact h.elim
      · exact h.elim

def AExit.to : AExit → Exit
  | .normal => .normal
  | .exit id => .exit id
  | .ret => .ret

/-- What follows a piece of code. -/
def After (n0 : Nat) (c : Ctx) (st : St) (w : World) (QX : AExit → St → Prop) (Q : Exit → Act → World → Prop) : Prop :=
  ∀ e st' c' a' w', Ext n0 c st.objs w c' st'.objs w' → Rel c' st' a' w' → n0 ≤ st'.objs.length → QX e st' → Q e.to a' w'

theorem boolOf_eval {c : Ctx} {st : St} {a : Act} {w : World} (hr : Rel c st a w) {x : Operand} {b : Bool} (h : boolOfSV (st.eval x) = some b) : a.eval x = .bool b := by
  have hx := hr.eval x
  unfold boolOfSV at h
  split at h
  · rename_i m heq
    rw [heq] at hx
    obtain rfl := Option.some.inj h
    exact Rep.v_inv hx
  · cases h

/-- A loop that ends: round by round. -/
inductive LoopD (P : Program) (b : Code) (Q : Exit → Act → World → Prop) : Act → World → Prop
  | mk {a : Act} {w : World} (J : Act → World → Prop) (hJ : ∀ a' w', J a' w' → LoopD P b Q a' w') (h : b.wp P (Exit.then J Q) a w) : LoopD P b Q a w

theorem LoopD.wp {P : Program} {cd : Code} {Q : Exit → Act → World → Prop} {a : Act} {w : World} (h : LoopD P cd Q a w) : (Code.loop cd).wp P Q a w := by
  intro b k cs
  have key : ∃ e a' w', Q e a' w' ∧ Arrives P (lone (b.at a (.code cd :: .inLoop cd :: k)) cs w) b k cs e a' w' := by
    induction h with
    | mk J hJ hc ih =>
      obtain ⟨e, a₁, w₁, hq, harr⟩ := hc b (.inLoop cd :: k) cs
      cases e with
      | normal =>
        obtain ⟨e₂, a₂, w₂, hq₂, harr₂⟩ := ih a₁ w₁ hq
        exact ⟨e₂, a₂, w₂, hq₂, .of_steps (Steps.trans harr (.one step_inLoop)) harr₂⟩
      | exit id => exact ⟨_, a₁, w₁, hq, .pass (x := .inLoop cd) rfl (fun _ _ => .inl (by simp)) harr⟩
      | goto l => exact ⟨_, a₁, w₁, hq, .pass (x := .inLoop cd) rfl (fun _ _ => .inl (by simp)) harr⟩
      | ret => exact ⟨_, a₁, w₁, hq, .pass (x := .inLoop cd) rfl (fun _ _ => .inl (by simp)) harr⟩
      | panic ch => exact ⟨_, a₁, w₁, hq, .pass (x := .inLoop cd) rfl (fun _ _ => .inl (by simp)) harr⟩
      | outgrown => exact ⟨_, a₁, w₁, hq, .pass (x := .inLoop cd) rfl (fun _ _ => .inl (by simp)) harr⟩
  obtain ⟨e, a', w', hq, harr⟩ := key
  exact ⟨e, a', w', hq, .of_steps (.one step_loop) harr⟩

theorem LoopD.ghost {P : Program} {cd : Code} {Q : Exit → Act → World → Prop} (I : Nat → Act → World → Prop)
    (round : ∀ n a w, I n a w → cd.wp P (Exit.then (fun a' w' => ∃ n', n' < n ∧ I n' a' w') Q) a w) : ∀ (n : Nat) (a : Act) (w : World), I n a w → LoopD P cd Q a w := by
  intro n
  induction n using Nat.strongRecOn with
  | _ n ih =>
    intro a w h
    exact .mk _ (fun a' w' ⟨n', h1, h2⟩ => ih n' h1 a' w' h2) (round n a w h)

theorem verUp_get : ∀ {n1 n0 : Nat} {l l' : Objs}, verUp n1 n0 l l' = true → n0 ≤ l'.length ∧ ∀ o cur bd, n1 ≤ o → o < n0 → l[o]? = some (cur, bd) → ∃ cur' bd', l'[o]? = some (cur', bd') ∧ cur < cur'
  | n1, 0, l, l', _ => ⟨Nat.zero_le _, fun o _ _ _ h => absurd h (by omega)⟩
  | 0, n0 + 1, (v, b) :: r, (v', b') :: r', h => by
    unfold verUp at h
    split at h
    · rename_i hlt
      obtain ⟨k1, k2⟩ := verUp_get h
      refine ⟨by rw [List.length_cons]; omega, fun o cur bd h1 h2 h3 => ?_⟩
      cases o with
      | zero =>
        obtain ⟨rfl, rfl⟩ : v = cur ∧ b = bd := by simpa using h3
        exact ⟨v', b', rfl, by rwa [Nat.blt_eq] at hlt⟩
      | succ o => exact k2 o cur bd (Nat.zero_le _) (by omega) (by simpa using h3)
    · cases h
  | n1 + 1, n0 + 1, x :: r, x' :: r', h => by
    obtain ⟨k1, k2⟩ := verUp_get (n1 := n1) (n0 := n0) (l := r) (l' := r') h
    refine ⟨by rw [List.length_cons]; omega, fun o cur bd h1 h2 h3 => ?_⟩
    cases o with
    | zero => omega
    | succ o => exact k2 o cur bd (by omega) (by omega) (by simpa using h3)
  | 0, n0 + 1, [], _, h => by simp [verUp] at h
  | 0, n0 + 1, _ :: _, [], h => by simp [verUp] at h
  | n1 + 1, n0 + 1, [], _, h => by simp [verUp] at h
  | n1 + 1, n0 + 1, _ :: _, [], h => by simp [verUp] at h

theorem Ext.up {n1 n0 : Nat} {c c' : Ctx} {objs objs' : Objs} {w w' : World} (h : Ext n1 c objs w c' objs' w') (hv : verUp n1 n0 objs objs' = true) : Ext n0 c objs w c' objs' w' := by
  refine ⟨h.size, h.tape, h.os, h.output, h.keep, h.shape, h.own, h.rup, h.rdown, fun o cur bd ho hob => ?_⟩
  by_cases hlt : o < n1
  · exact h.refs o cur bd hlt hob
  · obtain ⟨cur', bd', k1, k2⟩ := (verUp_get hv).2 o cur bd (by omega) ho hob
    exact ⟨cur', bd', k1, by omega, fun e => by omega⟩

theorem codeX_sound' {G : Gen} (cd : Code) : ∀ (n0 : Nat) (st : St) (QX : AExit → St → Prop), codeX G n0 cd st QX → n0 ≤ st.objs.length → ∀ (c : Ctx) (a : Act) (w : World), Rel c st a w →
    ∀ Q, After n0 c st w QX Q → cd.wp G.P Q a w := by
  induction cd with
  | skip => intro n0 st QX h hn c a w hr Q hQ; exact wp_skip (hQ .normal st c a w (Ext.refl _ _ _ _) hr hn h)
  | label l => intro n0 st QX h hn c a w hr Q hQ; exact wp_label (hQ .normal st c a w (Ext.refl _ _ _ _) hr hn h)
  | exit id => intro n0 st QX h hn c a w hr Q hQ; exact wp_exit (hQ (.exit id) st c a w (Ext.refl _ _ _ _) hr hn h)
  | ret => intro n0 st QX h hn c a w hr Q hQ; exact wp_ret (hQ .ret st c a w (Ext.refl _ _ _ _) hr hn h)
  | region id ops draw =>
    intro n0 st QX h hn c a w hr Q hQ
    rw [codeX_region] at h
    have fin : ∀ st' c' a' w', Ext st.objs.length c st.objs w c' st'.objs w' → Rel c' st' a' w' → QX .normal st' → Q .normal a' w' := fun st' c' a' w' hE hr' hk =>
      hQ .normal st' c' a' w' (hE.lower hn) hr' (Nat.le_trans hn hE.len) hk
    cases draw with
    | false =>
      refine wp_region (opsX_sound (List.range ops.size) ops.toList st _ ?_ h c a w hr fin)
      apply List.ext_getElem?
      intro i
      by_cases hi : i < ops.size
      · simp [hi]
      · rw [List.getElem?_eq_none (by simp; omega), List.getElem?_eq_none (by simp; omega)]
    | true =>
      exact drawX_region h hr fin
  | seq x y ihx ihy =>
    intro n0 st QX h hn c a w hr Q hQ
    refine wp_seq (ihx n0 st _ h hn c a w hr _ ?_)
    intro e st' c' a' w' hE hr' hn' hq
    cases e with
    | normal =>
      exact ihy n0 st' QX hq hn' c' a' w' hr' Q (fun e st2 c2 a2 w2 hE2 hr2 hn2 hq2 => hQ e st2 c2 a2 w2 (hE.trans hE2 (Nat.le_refl _)) hr2 hn2 hq2)
    | exit id => exact hQ (.exit id) st' c' a' w' hE hr' hn' hq
    | ret => exact hQ .ret st' c' a' w' hE hr' hn' hq
  | cond x y z ihy ihz =>
    intro n0 st QX h hn c a w hr Q hQ
    rw [codeX_cond] at h
    split at h
    · rename_i t ht
      have hb := boolOf_eval hr ht
      cases t with
      | true => exact wp_cond hb (ihy n0 st QX (Br.yes h rfl) hn c a w hr Q hQ)
      | false => exact wp_cond hb (ihz n0 st QX (Br.no h rfl) hn c a w hr Q hQ)
    · exact h.elim
  | block id b ih =>
    intro n0 st QX h hn c a w hr Q hQ
    refine wp_block (ih n0 st _ h hn c a w hr _ ?_)
    intro e st' c' a' w' hE hr' hn' hq
    cases e with
    | normal => exact hQ .normal st' c' a' w' hE hr' hn' hq
    | exit i =>
      dsimp only at hq
      show (if i = id then Q .normal a' w' else Q (.exit i) a' w')
      by_cases e : i = id
      · rw [if_pos e] at hq ⊢
        exact hQ .normal st' c' a' w' hE hr' hn' hq
      · rw [if_neg e] at hq ⊢
        exact hQ (.exit i) st' c' a' w' hE hr' hn' hq
    | ret => exact hQ .ret st' c' a' w' hE hr' hn' hq
  | loop b ih =>
    intro n0 st QX h hn c a w hr Q hQ
    rw [codeX_loop] at h
    refine LoopD.wp ?_
    unfold loopX at h
    rcases h with ⟨α, m, I, S, x0, h0, hw0, hround⟩ | ⟨n, h⟩
    · obtain ⟨c0, hE0, hr0⟩ := hw0 c a w hr
      refine LoopD.ghost (fun n a' w' => ∃ x c', m x = n ∧ I x ∧ Ext n0 c st.objs w c' (S x).objs w' ∧ Rel c' (S x) a' w') ?_ (m x0) a w ⟨x0, c0, rfl, h0, hE0, hr0⟩
      rintro n a' w' ⟨x, c', rfl, hx, hE, hr'⟩
      have hn' := hE.len' hn
      refine ih n0 (S x) _ (hround x hx) hn' c' a' w' hr' _ ?_
      intro e st2 c2 a2 w2 hE2 hr2 hn2 hq
      cases e with
      | normal =>
        obtain ⟨x', hx', hlt, hw'⟩ := hq
        obtain ⟨c3, hE3, hr3⟩ := hw' c2 a2 w2 hr2
        exact ⟨m x', hlt, x', c3, rfl, hx', (hE.trans hE2 (Nat.le_refl _)).trans hE3 (Nat.le_refl _), hr3⟩
      | exit id => exact hQ (.exit id) st2 c2 a2 w2 (hE.trans hE2 (Nat.le_refl _)) hr2 hn2 hq
      | ret => exact hQ .ret st2 c2 a2 w2 (hE.trans hE2 (Nat.le_refl _)) hr2 hn2 hq
    · induction n generalizing st c a w with
      | zero =>
        obtain ⟨n1, α, m, I, S, x0, hle, h0, hw0, hround⟩ := h
        obtain ⟨c0, hE0, hr0⟩ := hw0 c a w hr
        refine LoopD.ghost (fun n a' w' => ∃ x c', m x = n ∧ I x ∧ Ext n1 c st.objs w c' (S x).objs w' ∧ Rel c' (S x) a' w') ?_ (m x0) a w ⟨x0, c0, rfl, h0, hE0, hr0⟩
        rintro n a' w' ⟨x, c', rfl, hx, hE, hr'⟩
        have hn' := hE.len' (Nat.le_trans hle hn)
        refine ih n1 (S x) _ (hround x hx) hn' c' a' w' hr' _ ?_
        intro e st2 c2 a2 w2 hE2 hr2 hn2 hq
        cases e with
        | normal =>
          obtain ⟨x', hx', hlt, hw'⟩ := hq
          obtain ⟨c3, hE3, hr3⟩ := hw' c2 a2 w2 hr2
          exact ⟨m x', hlt, x', c3, rfl, hx', (hE.trans hE2 (Nat.le_refl _)).trans hE3 (Nat.le_refl _), hr3⟩
        | exit id => exact hQ (.exit id) st2 c2 a2 w2 ((hE.trans hE2 (Nat.le_refl _)).up hq.1) hr2 (verUp_get hq.1).1 hq.2
        | ret => exact hQ .ret st2 c2 a2 w2 ((hE.trans hE2 (Nat.le_refl _)).up hq.1) hr2 (verUp_get hq.1).1 hq.2
      | succ n ihn =>
        refine .mk _ (fun _ _ h => h) (ih n0 st _ h hn c a w hr _ ?_)
        intro e st2 c2 a2 w2 hE2 hr2 hn2 hq
        cases e with
        | normal => exact ihn st2 hn2 c2 a2 w2 hr2 (fun e st' c' a' w' hE hr' hn' hq' => hQ e st' c' a' w' (hE2.trans hE (Nat.le_refl _)) hr' hn' hq') hq
        | exit id => exact hQ (.exit id) st2 c2 a2 w2 hE2 hr2 hn2 hq
        | ret => exact hQ .ret st2 c2 a2 w2 hE2 hr2 hn2 hq
  | rangeFunc f ps as b _ _ => intro n0 st QX h; exact h.elim
  | scope b _ => intro n0 st QX h; exact h.elim
  | goto l => intro n0 st QX h; exact h.elim
  | refuse s => intro n0 st QX h; exact h.elim

theorem codeX_sound {G : Gen} {n0 : Nat} (cd : Code) (st : St) (QX : AExit → St → Prop) (h : codeX G n0 cd st QX) (hn : n0 ≤ st.objs.length) (c : Ctx) (a : Act) (w : World) (hr : Rel c st a w)
    (Q : Exit → Act → World → Prop) (hQ : After n0 c st w QX Q) : cd.wp G.P Q a w := codeX_sound' cd n0 st QX h hn c a w hr Q hQ

def resSem (tmps : Array Value) : ResultVar → Sem Value
  | .tmp t => pure (tmps.getD t undef)
  | .cell x t => do loadVar t (← asAddr (tmps.getD x undef))

theorem results_eq (fn : Func) (tmps : Array Value) : results fn tmps = (do let vs ← fn.results.mapM (resSem tmps); pure (if h : vs.size = 1 then vs[0] else .tuple vs)) := by
  unfold results
  have : (fun x => match x with | .tmp t => pure (tmps.getD t undef) | .cell a t => do loadVar t (← asAddr (tmps.getD a undef)) : ResultVar → Sem Value) = resSem tmps := by
    funext x; cases x <;> rfl
  rw [← this]
  rfl

theorem run_resOne {G : Gen} {c : Ctx} {st : St} {a : Act} {w : World} (hr : Rel c st a w) {r : ResultVar} {K : V1 → Prop} (h : resOneX G st r K) :
    ∃ u v, (resSem a.tmps r).run G.P w = .ok u w ∧ RelV1 c st.objs w v u ∧ K v := by
  unfold resOneX at h
  split at h
  · rename_i t
    split at h
    · rename_i v hv
      exact ⟨_, v, rfl, one_of hr hv, h⟩
    · exact h.elim
  · rename_i x t
    split at h
    · rename_i T y hT hy
      obtain ⟨hT⟩ := tyX_facts (G.ok _ _ hT)
      obtain ⟨v, z, h1, h2, h3⟩ := run_loadX (P := G.P) hT hr.objs h (one_of hr hy)
      replace h1 := h1 w (SameOld.refl w)
      refine ⟨v, z, ?_, h2, h3⟩
      show (do loadVar t (← asAddr (a.eval (.tmp x))) : Sem Value).run G.P w = _
      have : ∃ ad, a.eval (.tmp x) = .pointer (some ad) := by
        unfold Instr.loadAt Instr.sureAddr at h1
        split at h1
        · rename_i ad heq; exact ⟨ad, heq⟩
        · simp [stuck] at h1
      obtain ⟨ad, had⟩ := this
      rw [had] at h1 ⊢
      simpa [Instr.loadAt, Instr.sureAddr, asAddr] using h1
    · exact h.elim

theorem run_resX {G : Gen} {c : Ctx} {st : St} {a : Act} {w : World} (hr : Rel c st a w) : ∀ (rs : List ResultVar) (K : List V1 → Prop), resX G st rs K →
    ∃ us vs, (rs.mapM (resSem a.tmps)).run G.P w = .ok us w ∧
      us.length = vs.length ∧ (∀ (i : Nat) x, vs[i]? = some x → ∃ u, us[i]? = some u ∧ RelV1 c st.objs w x u) ∧ K vs
  | [], K, h => ⟨[], [], by simp, rfl, by simp, h⟩
  | r :: rs, K, h => by
    obtain ⟨u, v, h1, h2, h3⟩ := run_resOne hr h
    obtain ⟨us, vs, k1, k2, k3, k4⟩ := run_resX hr rs _ h3
    refine ⟨u :: us, v :: vs, ?_, by simp [k2], fun i x hx => ?_, k4⟩
    · rw [List.mapM_cons, Sem.run_bind, h1]
      simp only [Result.andThen_ok, Sem.run_bind]
      rw [k1]
      rfl
    · cases i with
      | zero => simp only [List.getElem?_cons_zero, Option.some.injEq] at hx ⊢; subst hx; exact ⟨u, rfl, h2⟩
      | succ i => simpa using k3 i x hx

theorem getE_envOf : ∀ (args : List V1) (n t : Nat), getE (envOf n args) t = if n ≤ t ∧ t < n + args.length then .one (args.getD (t - n) default) else .un
  | [], n, t => by simp [envOf, getE]
  | v :: r, n, t => by
    simp only [envOf, getE, getE_envOf r, List.length_cons]
    by_cases h : t = n
    · subst h
      rw [if_pos rfl, if_pos ⟨by omega, by omega⟩]
      simp
    · rw [if_neg h]
      by_cases h2 : n + 1 ≤ t ∧ t < n + 1 + r.length
      · rw [if_pos h2, if_pos ⟨by omega, by omega⟩, show t - n = (t - (n + 1)) + 1 by omega]
        simp
      · rw [if_neg h2, if_neg (by omega)]

theorem callX_of_body {G : Gen} {f : FuncId} {fn : Func} {cd : Code} {args : List V1} {objs : Objs} {K : SV → Objs → Prop} (hf : G.P.funcs[f]? = some fn) (hb : fn.body = some cd) (hname : (fn.name != "runtime.NumGoroutine") = true)
    (hn : args.length ≤ fn.ntmps) (h : bodyX G fn cd args objs K) : CallX G.P f args objs K := by
  refine ⟨by simp [enterable, hf, hb]; simpa using hname, fun c w vals hr hl hv => calls_of_wp hf hb ?_⟩
  have hR : Rel c { env := envOf 0 args, objs := objs, n := fn.ntmps } { tmps := vals ++ Array.replicate (fn.ntmps - vals.size) undef, defers := [] } w := by
    refine ⟨hr, fun t ht => ?_, by simp [hl]; omega, rfl⟩
    rw [getE_envOf]
    dsimp only at ht ⊢
    by_cases h1 : t < args.length
    · rw [if_pos ⟨by omega, by omega⟩]
      obtain ⟨u, k1, k2⟩ := hv t args[t] (List.getElem?_eq_getElem h1)
      refine ⟨u, by rw [Array.getElem?_append_left (by omega), k1], ?_⟩
      simp only [Nat.sub_zero, List.getD_eq_getElem?_getD, List.getElem?_eq_getElem h1, Option.getD_some]
      exact k2
    · rw [if_neg (by omega)]
      refine ⟨undef, ?_, trivial⟩
      rw [Array.getElem?_append_right (by omega), Array.getElem?_replicate, if_pos (by omega)]
  refine codeX_sound cd _ _ h (Nat.le_refl _) c _ w hR _ ?_
  intro e st' c' a' w' hE hr' _ hq
  have key : (resX G st' fn.results.toList fun vs => K (svOf vs) st'.objs) → a'.defers = [] ∧ ∃ v, (results fn a'.tmps).run G.P w' = .ok v w' ∧ ∃ v' c'' objs'' sv, (Ending.returned v) = .returned v' ∧ Ext objs.length c objs w c'' objs'' w' ∧ RelObjs c'' objs'' w' ∧ RelSV c'' objs'' w' sv v' ∧ K sv objs'' := by
    intro hres
    obtain ⟨us, vs, k1, k2, k3, k4⟩ := run_resX hr' _ _ hres
    have hrun : (results fn a'.tmps).run G.P w' = .ok (if h : us.toArray.size = 1 then us.toArray[0] else .tuple us.toArray) w' := by
      rw [results_eq, Array.mapM_eq_mapM_toList]
      simp only [Sem.run_bind, Sem.run_map]
      rw [k1]
      simp only [Result.andThen_ok]
      split <;> rfl
    refine ⟨hr'.defers, _, hrun, _, c', st'.objs, svOf vs, rfl, hE, hr'.objs, ?_, k4⟩
    match vs, us, k2, k3 with
    | [v], [u], _, k3 =>
      obtain ⟨u', m1, m2⟩ := k3 0 v rfl
      obtain rfl : u = u' := by simpa using m1
      exact m2
    | [], [], _, _ => exact ⟨#[], rfl, rfl, by simp⟩
    | v1 :: v2 :: vs, u1 :: u2 :: us, k2, k3 =>
      rw [dif_neg (by simp)]
      exact ⟨_, rfl, by simpa using k2, fun i x hx => by obtain ⟨u, m1, m2⟩ := k3 i x hx; exact ⟨u, by simpa using m1, m2⟩⟩
  cases e with
  | normal => exact key (by simpa only [fObjs_eq, fSV_eq] using hq)
  | exit id => exact hq.elim
  | ret => exact key (by simpa only [fObjs_eq, fSV_eq] using hq)

end Go.Proofs.Ytmfdkjjhdjkgpaa

namespace Go.Proofs.Ytmfdkjjhdjkgpaa
open Go Go.RowKit

inductive DR where
  | one (v : DV)
  | tup (vs : List DV)

def DV.toV1 : DV → V1
  | .c x => .c (cvOf x)
  | .agg xs => .agg (xs.map cvOf)

/-- Cells whose rows lie in blocks bs of their own, from block B on. -/
inductive FreshCells (B : Nat) (w : World) : List DC → List Value → List Nat → Prop
  | nil : FreshCells B w [] [] []
  | v (x : Value) (h1 : x.oneCell' = true) {ds us bs} : FreshCells B w ds us bs → FreshCells B w (.v x :: ds) (x :: us) bs
  | none (e : Nat) (a : Option Addr) {ds us bs} : FreshCells B w ds us bs → FreshCells B w (.list e [] :: ds) (.slice a 0 0 :: us) bs
  | row (e : Nat) (xs : List (List DC)) (b off cap : Nat) (cs : Array Value) (T : TypeId) {ds us bs} (hb : b ∉ bs) (hB : B ≤ b) (hh : w.heap[b]? = some (.cells cs T (0, 0))) (hc : xs.length ≤ cap) (hs : off + cap * e ≤ cs.size)
      (hl : ∀ x ∈ xs, x.length = e) (hr : ∀ (i j : Nat) d, (xs[i]?.bind (·[j]?)) = some d → ∃ u, cs[off + (i * e + j)]? = some u ∧ Rep w (fun _ => False) d u) :
      FreshCells B w ds us bs → FreshCells B w (.list e xs :: ds) (.slice (some ⟨b, off, Option.none⟩) xs.length cap :: us) (b :: bs)

inductive FreshVs (B : Nat) (w : World) : List DV → List Value → List Nat → Prop
  | nil : FreshVs B w [] [] []
  | c {d u bs ds us cs} : FreshCells B w [d] [u] bs → FreshVs B w ds us cs → (∀ b ∈ bs, b ∉ cs) → FreshVs B w (.c d :: ds) (u :: us) (bs ++ cs)
  | agg {xs} {vs : Array Value} {bs ds us cs} : FreshCells B w xs vs.toList bs → FreshVs B w ds us cs → (∀ b ∈ bs, b ∉ cs) → FreshVs B w (.agg xs :: ds) (.agg vs :: us) (bs ++ cs)

def FreshDR (B : Nat) (w : World) : DR → Value → Prop
  | .one d, v => ∃ bs, FreshVs B w [d] [v] bs
  | .tup ds, v => ∃ vs bs, v = .tuple vs ∧ FreshVs B w ds vs.toList bs

/-- Function f, at these data, hands back this datum, whatever memory they lie in; nothing that was there is written. -/
def Fn (P : Program) (f : FuncId) (args : List DV) (res : DR) : Prop :=
  enterable P f = true ∧ ∀ (w : World) (vals : Array Value), vals.size = args.length → (∀ (i : Nat) x, args[i]? = some x → ∃ u, vals[i]? = some u ∧ RepDV w (· < w.heap.size) x u) →
    Calls P f vals w fun e w' => ∃ v, e = .returned v ∧ Below w.heap.size w w' ∧ FreshDR w.heap.size w' res v

/-! What a final state says of the results. -/

def flatDC : DC → Prop
  | .v _ => True
  | .list _ _ => False

def resCell (objs : Objs) : CV → DC → Prop
  | .d (.v x), .v y => x = y
  | .nilsl, .list _ xs => xs = []
  | .esl, .list _ xs => xs = []
  | .sl o ver e off len _, .list e' xs =>
    match objAt objs o ver with
    | some (.arr e'' ys) => e = e' ∧ e'' = e ∧ off + len ≤ ys.length ∧ xs = (ys.drop off).take len ∧ ∀ y ∈ xs, ∀ d ∈ y, flatDC d
    | _ => False
  | _, _ => False

def resCells (objs : Objs) : List CV → List DC → Prop
  | [], [] => True
  | x :: r, d :: s => resCell objs x d ∧ resCells objs r s
  | _, _ => False

def resVs (objs : Objs) : List V1 → List DV → Prop
  | [], [] => True
  | .c x :: r, .c d :: s => resCell objs x d ∧ resVs objs r s
  | .agg xs :: r, .agg ds :: s => resCells objs xs ds ∧ resVs objs r s
  | _, _ => False

def refCV : CV → List Nat
  | .sl o _ _ _ _ _ => [o]
  | _ => []

def refCs : List CV → List Nat
  | [] => []
  | x :: r => refCV x ++ refCs r

def refVs : List V1 → List Nat
  | [] => []
  | .c x :: r => refCV x ++ refVs r
  | .agg xs :: r => refCs xs ++ refVs r

structure ResOK (objs : Objs) (vs : List V1) (ds : List DV) : Prop where
  res : resVs objs vs ds
  nodup : (refVs vs).Nodup

theorem resOK_iff {objs : Objs} {vs : List V1} {ds : List DV} : ResOK objs vs ds ↔ resVs objs vs ds ∧ (refVs vs).Nodup := ⟨fun h => ⟨h.1, h.2⟩, fun h => ⟨h.1, h.2⟩⟩

def resOK (objs : Objs) : SV → DR → Prop
  | .one v, .one d => ResOK objs [v] [d]
  | .tup vs, .tup ds => ResOK objs vs ds
  | _, _ => False

theorem Rep.flat {w : World} {R R' : Nat → Prop} {d : DC} {v : Value} (h : Rep w R d v) (hd : flatDC d) : Rep w R' d v := by
  cases h with
  | v _ h1 => exact .v _ h1
  | list => exact hd.elim

/-- Where the blocks of results are: at places of the objects named. -/
def InRefs (c : Ctx) (objs : Objs) (bs : List Nat) (os : List Nat) : Prop :=
  ∀ b ∈ bs, ∃ o ∈ os, ∃ ver bd base, objs[o]? = some (ver, bd) ∧ bd.mine = true ∧ c.φ o = some (b, base)

theorem InRefs.disj {c : Ctx} {objs : Objs} {w : World} (hr : RelObjs c objs w) {bs cs os ps : List Nat} (h : InRefs c objs bs os) (g : InRefs c objs cs ps) (hd : ∀ o ∈ os, o ∉ ps) : ∀ b ∈ bs, b ∉ cs := by
  intro b hb hc
  obtain ⟨o, ho, v, x, base, h1, h2, h3⟩ := h b hb
  obtain ⟨p, hp, v', x', base', g1, g2, g3⟩ := g b hc
  have := hr.inj o p v v' x x' b h1 h2 g1 (OB.mine_live g2) (.inl ⟨_, h3⟩) (.inl ⟨_, g3⟩)
  subst this
  exact hd o ho hp

theorem InRefs.append {c : Ctx} {objs : Objs} {bs cs os ps : List Nat} (h : InRefs c objs bs os) (g : InRefs c objs cs ps) : InRefs c objs (bs ++ cs) (os ++ ps) := by
  intro b hb
  rcases List.mem_append.1 hb with hb | hb
  · obtain ⟨o, ho, r⟩ := h b hb; exact ⟨o, List.mem_append.2 (.inl ho), r⟩
  · obtain ⟨o, ho, r⟩ := g b hb; exact ⟨o, List.mem_append.2 (.inr ho), r⟩

theorem fresh_cell {c : Ctx} {objs : Objs} {w : World} {B : Nat} (hr : RelObjs c objs w) (hB : ∀ b, Own c objs b → B ≤ b) {x : CV} {d : DC} {u : Value} (h : resCell objs x d) (hx : RelCV c objs w x u)
    {ds : List DC} {us : List Value} {bs os : List Nat} (hf : FreshCells B w ds us bs) (hin : InRefs c objs bs os) (hnd : ∀ o ∈ refCV x, o ∉ os) :
    ∃ bs', FreshCells B w (d :: ds) (u :: us) bs' ∧ InRefs c objs bs' (refCV x ++ os) := by
  unfold resCell at h
  split at h
  · rename_i y y'
    subst h
    have hone := hx.one
    obtain rfl := Rep.v_inv hx
    exact ⟨bs, .v _ hone hf, by simpa [refCV] using hin⟩
  · subst h
    obtain rfl := hx
    exact ⟨bs, .none _ _ hf, by simpa [refCV] using hin⟩
  · subst h
    obtain ⟨a, rfl⟩ := hx
    exact ⟨bs, .none _ _ hf, by simpa [refCV] using hin⟩
  · rename_i o ver e off len cap e' xs
    split at h
    · rename_i e'' ys hob
      obtain ⟨rfl, rfl, hol, rfl, hflat⟩ := h
      have hob' := objAt_some hob
      obtain ⟨a, cp, rfl, k2, k3, k4⟩ := hx.2.2 (live_of_objAt hob (by simp))
      have hlen : ((ys.drop off).take len).length = len := by simp; omega
      by_cases h0 : 0 < cp
      · obtain ⟨b, base, cs, T, g1, rfl, g3, g4⟩ := k4 h0
        have hown : Own c objs b := .of hob' rfl g1
        have hin' : InRefs c objs [b] [o] := by
          intro b' hb'
          obtain rfl := List.mem_singleton.1 hb'
          exact ⟨o, List.mem_singleton.2 rfl, ver, _, base, hob', rfl, g1⟩
        rcases hr.ob o ver _ hob' with ⟨q1, _⟩ | ⟨b', base', cs', T', q1, q2, q3, q4, q5⟩
        · rw [q1] at g1; cases g1
        rw [g1] at q1
        obtain ⟨rfl, rfl⟩ : b = b' ∧ base = base' := by simpa using q1
        rw [g3] at q2
        simp only [Option.some.injEq, Obj.cells.injEq, and_true] at q2
        obtain ⟨rfl, rfl⟩ := q2
        have hb : b ∉ bs := InRefs.disj hr hin' hin (by simpa [refCV] using hnd) b (List.mem_singleton.2 rfl)
        have := FreshCells.row (B := B) (w := w) e'' ((ys.drop off).take len) b (base + off * e'') cp cs T hb (hB b hown) g3 (by omega) (by rw [Nat.add_mul] at g4; omega)
          (fun x hx => q4 x (List.mem_of_mem_drop (List.mem_of_mem_take hx)))
          (fun i j d hd => by
            have hd0 := hd
            rw [List.getElem?_take] at hd
            split at hd
            · rw [List.getElem?_drop] at hd
              obtain ⟨u, m1, m2⟩ := q5 (off + i) j d hd
              refine ⟨u, ?_, m2.flat ?_⟩
              · rw [← m1, Nat.add_mul]; congr 1; omega
              · cases hy : ((ys.drop off).take len)[i]? with
                | none => simp [hy] at hd0
                | some y =>
                  rw [hy] at hd0
                  exact hflat y (List.mem_of_getElem? hy) d (List.mem_of_getElem? hd0)
            · simp at hd) hf
        rw [hlen] at this
        exact ⟨b :: bs, this, by have := hin'.append hin; simpa [refCV] using this⟩
      · have hz : len = 0 := by omega
        have hz2 : cp = 0 := by omega
        subst hz hz2
        simp only [List.take_zero]
        exact ⟨bs, .none _ _ hf, fun b hb => by obtain ⟨o', ho', r⟩ := hin b hb; exact ⟨o', List.mem_append.2 (.inr ho'), r⟩⟩
    · exact h.elim
  · exact h.elim

theorem fresh_cells {c : Ctx} {objs : Objs} {w : World} {B : Nat} (hr : RelObjs c objs w) (hB : ∀ b, Own c objs b → B ≤ b) : ∀ (xs : List CV) (ds : List DC) (us : List Value), resCells objs xs ds → us.length = xs.length →
    (∀ (i : Nat) x, xs[i]? = some x → ∃ u, us[i]? = some u ∧ RelCV c objs w x u) → (refCs xs).Nodup → ∃ bs, FreshCells B w ds us bs ∧ InRefs c objs bs (refCs xs)
  | [], [], [], _, _, _, _ => ⟨[], .nil, fun _ h => by cases h⟩
  | [], [], _ :: _, _, hl, _, _ => by simp at hl
  | [], _ :: _, _, h, _, _, _ => h.elim
  | _ :: _, [], _, h, _, _, _ => h.elim
  | _ :: _, _ :: _, [], _, hl, _, _ => by simp at hl
  | x :: r, d :: s, u :: us, h, hl, hx, hnd => by
    obtain ⟨h1, h2⟩ := h
    simp only [refCs, List.nodup_append] at hnd
    obtain ⟨n1, n2, n3⟩ := hnd
    obtain ⟨bs, k1, k2⟩ := fresh_cells hr hB r s us h2 (by simpa using hl) (fun i y hy => by simpa using hx (i + 1) y (by simpa using hy)) n2
    obtain ⟨u', m1, m2⟩ := hx 0 x rfl
    obtain rfl : u = u' := by simpa using m1
    exact fresh_cell hr hB h1 m2 k1 k2 (fun o ho ho' => n3 o ho o ho' rfl)

theorem fresh_vs {c : Ctx} {objs : Objs} {w : World} {B : Nat} (hr : RelObjs c objs w) (hB : ∀ b, Own c objs b → B ≤ b) : ∀ (xs : List V1) (ds : List DV) (us : List Value), resVs objs xs ds → us.length = xs.length →
    (∀ (i : Nat) x, xs[i]? = some x → ∃ u, us[i]? = some u ∧ RelV1 c objs w x u) → (refVs xs).Nodup → ∃ bs, FreshVs B w ds us bs ∧ InRefs c objs bs (refVs xs)
  | [], [], [], _, _, _, _ => ⟨[], .nil, fun _ h => by cases h⟩
  | [], [], _ :: _, _, hl, _, _ => by simp at hl
  | [], _ :: _, _, h, _, _, _ => h.elim
  | .c _ :: _, [], _, h, _, _, _ => h.elim
  | .agg _ :: _, [], _, h, _, _, _ => h.elim
  | .c _ :: _, .agg _ :: _, _, h, _, _, _ => h.elim
  | .agg _ :: _, .c _ :: _, _, h, _, _, _ => h.elim
  | .c _ :: _, .c _ :: _, [], _, hl, _, _ => by simp at hl
  | .agg _ :: _, .agg _ :: _, [], _, hl, _, _ => by simp at hl
  | .c x :: r, .c d :: s, u :: us, h, hl, hx, hnd => by
    obtain ⟨h1, h2⟩ := h
    simp only [refVs, List.nodup_append] at hnd
    obtain ⟨n1, n2, n3⟩ := hnd
    obtain ⟨bs, k1, k2⟩ := fresh_vs hr hB r s us h2 (by simpa using hl) (fun i y hy => by simpa using hx (i + 1) y (by simpa using hy)) n2
    obtain ⟨u', m1, m2⟩ := hx 0 _ rfl
    obtain rfl : u = u' := by simpa using m1
    obtain ⟨bs', f1, f2⟩ := fresh_cell hr hB h1 m2 .nil (os := []) (fun _ h => by cases h) (by simp)
    simp only [List.append_nil] at f2
    exact ⟨bs' ++ bs, .c f1 k1 (InRefs.disj hr f2 k2 (fun o ho ho' => n3 o ho o ho' rfl)), f2.append k2⟩
  | .agg xs :: r, .agg d :: s, u :: us, h, hl, hx, hnd => by
    obtain ⟨h1, h2⟩ := h
    simp only [refVs, List.nodup_append] at hnd
    obtain ⟨n1, n2, n3⟩ := hnd
    obtain ⟨bs, k1, k2⟩ := fresh_vs hr hB r s us h2 (by simpa using hl) (fun i y hy => by simpa using hx (i + 1) y (by simpa using hy)) n2
    obtain ⟨u', m1, m2⟩ := hx 0 _ rfl
    obtain rfl : u = u' := by simpa using m1
    obtain ⟨vs, rfl, e2, e3⟩ := m2
    obtain ⟨bs', f1, f2⟩ := fresh_cells hr hB xs d vs.toList h1 (by simpa using e2) (fun i x hi => by obtain ⟨u, p1, p2⟩ := e3 i x hi; exact ⟨u, by simpa using p1, p2⟩) n1
    exact ⟨bs' ++ bs, .agg f1 k1 (InRefs.disj hr f2 k2 (fun o ho ho' => n3 o ho o ho' rfl)), f2.append k2⟩

/-- A contract on data, from a walk whose arguments are only read. -/
theorem fn_of_call {P : Program} {f : FuncId} {args : List DV} {res : DR} (h : CallX P f (args.map DV.toV1) [] (fun sv objs => resOK objs sv res)) : Fn P f args res := by
  obtain ⟨hent, hcall⟩ := h
  refine ⟨hent, fun w vals hl hv => ?_⟩
  have hr0 : RelObjs { φ := fun _ => none, R := (· < w.heap.size), ψ := fun _ _ => none } [] w :=
    ⟨by simp, by simp, fun _ h => h, by simp, fun b hb => by obtain ⟨o, v, x, h1, _⟩ := hb; simp at h1⟩
  refine (hcall _ w vals hr0 (by simpa using hl) ?_).mono ?_
  · intro i x hx
    simp only [List.getElem?_map, Option.map_eq_some_iff] at hx
    obtain ⟨d, hd, rfl⟩ := hx
    obtain ⟨u, h1, h2⟩ := hv i d hd
    refine ⟨u, h1, ?_⟩
    cases d with
    | c x => exact rel_cvOf h2
    | agg xs =>
      obtain ⟨vs, rfl, e2, e3⟩ := h2
      refine ⟨vs, rfl, by simpa using e2, fun j y hy => ?_⟩
      simp only [List.getElem?_map, Option.map_eq_some_iff] at hy
      obtain ⟨d, hd, rfl⟩ := hy
      obtain ⟨u, m1, m2⟩ := e3 j d hd
      exact ⟨u, m1, rel_cvOf m2⟩
  · rintro e w' ⟨v, c', objs', sv, rfl, hE, hr', hsv, hk⟩
    have hB : ∀ b, Own c' objs' b → w.heap.size ≤ b := by
      intro b hb
      rcases hE.own b hb with ⟨o, v, x, h1, _⟩ | h
      · simp at h1
      · exact h
    refine ⟨v, rfl, ⟨hE.os, hE.tape, hE.output, hE.size, fun k hk => hE.keep k hk (fun ho => by obtain ⟨o, v, x, h1, _⟩ := ho; simp at h1)⟩, ?_⟩
    unfold resOK at hk
    split at hk
    · rename_i x d
      obtain ⟨bs, k1, _⟩ := fresh_vs hr' hB [x] [d] [v] hk.1 rfl (fun i y hy => by
        cases i with
        | zero => simp only [List.getElem?_cons_zero, Option.some.injEq] at hy; subst hy; exact ⟨v, rfl, hsv⟩
        | succ i => simp at hy) hk.2
      exact ⟨bs, k1⟩
    · rename_i xs ds
      obtain ⟨vs, rfl, e2, e3⟩ := hsv
      obtain ⟨bs, k1, _⟩ := fresh_vs hr' hB xs ds vs.toList hk.1 (by simpa using e2) (fun i x hi => by obtain ⟨u, p1, p2⟩ := e3 i x hi; exact ⟨u, by simpa using p1, p2⟩) hk.2
      exact ⟨vs, bs, rfl, k1⟩
    · exact hk.elim

section
variable {objs : Objs} {x : Value} {a : CV} {d : DC} {r : List CV} {s : List DC} {e : Nat} {xs : List (List DC)} {vr : List V1} {vs : List DV}
end
end Go.Proofs.Ytmfdkjjhdjkgpaa

namespace Go.Proofs.Ytmfdkjjhdjkgpaa
open Go Go.RowKit

def snapC (objs : Objs) : CV → DC → Prop
  | .d x, y => x = y
  | .nilsl, .list _ xs => xs = []
  | .nilsl, .v y => y = .slice none 0 0
  | .esl, .list _ xs => xs = []
  | .sl o ver e off len _, .list e' xs =>
    match objRd objs o ver with
    | some (.arr e'' ys) => e = e' ∧ e'' = e ∧ 0 < e ∧ off + len ≤ ys.length ∧ xs = (ys.drop off).take len
    | some (.box cs) => e = e' ∧ e = 1 ∧ off + len ≤ cs.length ∧ boxRow ((cs.drop off).take len) = some xs
    | _ => False
  | .gsl o ver p e off len, .list e' xs =>
    match objRd objs o ver with
    | some (.grid e0 zs) => e = e' ∧ ∃ ys, rowAt e0 zs p = some (e, ys) ∧ off = 0 ∧ len = ys.length ∧ xs = ys
    | _ => False
  | _, _ => False

theorem boxRow_get : ∀ {cs : List CV} {xs : List (List DC)}, boxRow cs = some xs → xs.length = cs.length ∧ ∀ (i : Nat) x, xs[i]? = some x → ∃ d, x = [d] ∧ cs[i]? = some (.d d)
  | [], xs, h => by obtain rfl := Option.some.inj h; exact ⟨rfl, by simp⟩
  | c :: r, xs, h => by
    unfold boxRow at h
    split at h
    · rename_i h0; cases h0
    · rename_i x r' heq
      simp only [List.cons.injEq] at heq
      obtain ⟨rfl, rfl⟩ := heq
      split at h
      · rename_i ys hys
        obtain rfl := Option.some.inj h
        obtain ⟨k1, k2⟩ := boxRow_get hys
        refine ⟨by simp [k1], fun i y hy => ?_⟩
        cases i with
        | zero => simp at hy; exact ⟨x, hy.symm, rfl⟩
        | succ i => simpa using k2 i y (by simpa using hy)
      · cases h
    · cases h

def snapCs (objs : Objs) : List CV → List DC → Prop
  | [], [] => True
  | x :: r, d :: s => snapC objs x d ∧ snapCs objs r s
  | _, _ => False

def snapVs (objs : Objs) : List V1 → List DV → Prop
  | [], [] => True
  | .c x :: r, .c d :: s => snapC objs x d ∧ snapVs objs r s
  | .agg xs :: r, .agg ds :: s => snapCs objs xs ds ∧ snapVs objs r s
  | _, _ => False

theorem Rep.of_row {w : World} {R R' : Nat → Prop} {e : Nat} {ys : List (List DC)} {us : List Value} {a : Option Addr} {cap : Nat} (hrow : RepRow w R e ys us) (hR : ∀ b, R b → R' b) (hcap : ys.length ≤ cap)
    (hcl : ∀ (p : Nat) u, us[p]? = some u → ∃ b off, a = some ⟨b, off, none⟩ ∧ R' b ∧ w.cell? ⟨b, off + p, none⟩ = some u) : Rep w R' (.list e ys) (.slice a ys.length cap) := by
  refine .list e ys a cap (fun i j => us.getD (i * e + j) undef) hcap hrow.lens ?_ ?_
  · intro i j hi hj
    have hlt : i * e + j < us.length := by
      rw [hrow.len]
      have h4 : (i + 1) * e ≤ ys.length * e := Nat.mul_le_mul_right e hi
      rw [Nat.succ_mul] at h4; omega
    obtain ⟨b, off, h1, h2, h3⟩ := hcl _ _ (List.getElem?_eq_getElem hlt)
    exact ⟨b, off, h1, h2, by rw [h3]; simp [List.getD, List.getElem?_eq_getElem hlt]⟩
  · intro i j d hd
    obtain ⟨u, h1, h2⟩ := hrow.rep i j d hd
    have : us.getD (i * e + j) undef = u := by simp [List.getD, h1]
    rw [this]
    exact h2.mono hR (fun _ _ => rfl)

theorem rep_snap {P : Program} {c : Ctx} {objs : Objs} {w : World} (hr : RelObjs c objs w) {x : CV} {d : DC} {u : Value} (h : snapC objs x d) (hx : RelCV c objs w x u) : Rep w (· < w.heap.size) d u := by
  unfold snapC at h
  split at h
  · subst h; exact Rep.mono (R := c.R) hr.rsize (fun _ _ => rfl) hx
  · subst h; obtain rfl := hx
    exact .list _ [] none 0 (fun _ _ => undef) (Nat.le_refl _) (by simp) (by simp) (by simp)
  · subst h; obtain rfl := hx; exact .v _ rfl
  · subst h; obtain ⟨a, rfl⟩ := hx
    exact .list _ [] a 0 (fun _ _ => undef) (Nat.le_refl _) (by simp) (by simp) (by simp)
  · rename_i o ver e off len cap e' xs
    split at h
    · rename_i e'' ys hob
      obtain ⟨rfl, rfl, hpos, hol, rfl⟩ := h
      obtain ⟨a, cp, us, rfl, h1, h2, _, h4⟩ := run_contentX (P := P) (x := .sl o ver e'' off len cap) (ys := (ys.drop off).take len) hr hpos (by simp [contentX, hob]) (by simp [contentOK, hob, hol]) hx
      refine Rep.of_row h2 hr.rsize h1 (fun p u hp => ?_)
      obtain ⟨b, o', k1, k2⟩ := h4 p u hp
      refine ⟨b, o', k1, ?_, k2⟩
      unfold World.cell? at k2
      split at k2
      · rename_i hh; exact (Array.getElem?_eq_some_iff.1 hh).1
      · cases k2
    · rename_i cs hob
      obtain ⟨rfl, rfl, hol, hbr⟩ := h
      obtain ⟨hob, hlive⟩ := objRd_ob hr hob
      obtain ⟨_, _, hx⟩ := hx
      obtain ⟨a, cp, rfl, h2, _, h4⟩ := hx hlive
      obtain ⟨b', base', cs', T', q1, q2, q3, q4⟩ := hob
      obtain ⟨m1, m2⟩ := boxRow_get hbr
      have hlen : xs.length = len := by rw [m1]; simp; omega
      by_cases h0 : len = 0
      · have : xs = [] := List.eq_nil_of_length_eq_zero (by omega)
        subst this h0
        exact .list _ [] a cp (fun _ _ => undef) (Nat.zero_le _) (by simp) (by simp) (by simp)
      obtain ⟨b, base, cs2, T2, g1, rfl, g3, g4⟩ := h4 (by omega)
      rw [g1] at q1
      obtain ⟨rfl, rfl⟩ : b = b' ∧ base = base' := by simpa using q1
      have hel : ∀ i, i < len → ∃ d u, xs[i]? = some [d] ∧ cs'[base + (off + i)]? = some u ∧ Rep w c.R d u := by
        intro i hi
        obtain ⟨d, hd, hcd⟩ := m2 i _ (List.getElem?_eq_getElem (by omega))
        rw [List.getElem?_take, if_pos hi, List.getElem?_drop] at hcd
        obtain ⟨u, k1, k2⟩ := q4 _ _ hcd
        exact ⟨d, u, by rw [List.getElem?_eq_getElem (by omega), hd], k1, k2⟩
      have := Rep.list (w := w) (R := (· < w.heap.size)) 1 xs (some ⟨b, base + off * 1, none⟩) cp (fun i _ => (cs'[base + (off + i)]?).getD undef) (by omega)
        (fun x hx => by obtain ⟨i, hi⟩ := List.mem_iff_getElem?.1 hx; obtain ⟨d, rfl, _⟩ := m2 i x hi; rfl)
        (fun i j hi hj => by
          obtain ⟨d, u, e1, e2, e3⟩ := hel i (by omega)
          refine ⟨b, base + off * 1, rfl, (Array.getElem?_eq_some_iff.1 q2).1, ?_⟩
          have hj0 : j = 0 := by omega
          subst hj0
          rw [cell_of q2, show base + off * 1 + (i * 1 + 0) = base + (off + i) by omega, e2]; rfl)
        (fun i j d hd => by
          have hi : i < len := by
            rcases Nat.lt_or_ge i len with h | h
            · exact h
            · rw [List.getElem?_eq_none (by omega)] at hd; cases hd
          obtain ⟨d', u, e1, e2, e3⟩ := hel i hi
          rw [e1] at hd
          have hj0 : j = 0 := by
            cases j with
            | zero => rfl
            | succ j => simp at hd
          subst hj0
          simp at hd
          subst hd
          rw [e2]
          exact e3.mono hr.rsize (fun _ _ => rfl))
      rw [hlen] at this
      exact this
    · exact h.elim
  · rename_i o ver p e off len e' xs
    split at h
    · rename_i e0 zs hob
      obtain ⟨rfl, ys, hrow, rfl, rfl, rfl⟩ := h
      obtain ⟨hob, hlive⟩ := objRd_ob hr hob
      obtain ⟨_, _, hx⟩ := hx
      obtain ⟨a, cp, rfl, h2, h4⟩ := hx hlive
      obtain ⟨b0, base0, cs0, T0, g1, g2, g3, g4, g5, _⟩ := hob
      obtain ⟨u0, r1, a', cp', hu0, k2, k3, k4⟩ := rowAt_rel g4 g5 hrow
      by_cases h0 : xs.length = 0
      · have : xs = [] := List.eq_nil_of_length_eq_zero h0
        subst this
        exact .list _ [] a cp (fun _ _ => undef) (Nat.zero_le _) (by simp) (by simp) (by simp)
      obtain ⟨b, base, q1, rfl⟩ := h4 (by omega)
      obtain ⟨b', base', cs, T', q1', q2, q3, q4, q5⟩ := k4 (by omega)
      rw [q1] at q1'
      obtain ⟨rfl, rfl⟩ : b = b' ∧ base = base' := by simpa using q1'
      refine .list _ xs _ cp (fun i j => (cs[base + (i * e + j)]?).getD undef) h2 k3 (fun i j hi hj => ?_) (fun i j d hd => ?_)
      · refine ⟨b, base + 0 * e, rfl, (Array.getElem?_eq_some_iff.1 q3).1, ?_⟩
        have hxi : xs[i]? = some xs[i] := List.getElem?_eq_getElem hi
        have hil := k3 _ (List.getElem_mem hi)
        obtain ⟨u, w1, w2⟩ := q5 i j (xs[i][j]'(by omega)) (by rw [hxi]; simp)
        rw [cell_of q3, show base + 0 * e + (i * e + j) = base + (i * e + j) by omega, w1]; rfl
      · obtain ⟨u, w1, w2⟩ := q5 i j d hd
        rw [w1]
        exact w2.mono hr.rsize (fun _ _ => rfl)
    · exact h.elim
  · exact h.elim

theorem rep_snaps {P : Program} {c : Ctx} {objs : Objs} {w : World} (hr : RelObjs c objs w) : ∀ {xs : List CV} {ds : List DC} {us : List Value}, snapCs objs xs ds → us.length = xs.length →
    (∀ (i : Nat) x, xs[i]? = some x → ∃ u, us[i]? = some u ∧ RelCV c objs w x u) → us.length = ds.length ∧ ∀ (i : Nat) d, ds[i]? = some d → ∃ u, us[i]? = some u ∧ Rep w (· < w.heap.size) d u
  | [], [], us, _, hl, _ => ⟨hl, by simp⟩
  | [], _ :: _, _, h, _, _ => h.elim
  | _ :: _, [], _, h, _, _ => h.elim
  | x :: r, d :: s, [], _, hl, _ => by simp at hl
  | x :: r, d :: s, u :: us, h, hl, hx => by
    obtain ⟨k1, k2⟩ := rep_snaps (P := P) hr h.2 (by simpa using hl) (fun i y hy => by simpa using hx (i + 1) y (by simpa using hy))
    obtain ⟨u', m1, m2⟩ := hx 0 x rfl
    obtain rfl : u = u' := by simpa using m1
    refine ⟨by simp [k1], fun i d' hd => ?_⟩
    cases i with
    | zero => simp only [List.getElem?_cons_zero, Option.some.injEq] at hd ⊢; subst hd; exact ⟨u, rfl, rep_snap (P := P) hr h.1 m2⟩
    | succ i => simpa using k2 i d' (by simpa using hd)

theorem rep_snapVs {P : Program} {c : Ctx} {objs : Objs} {w : World} (hr : RelObjs c objs w) : ∀ {xs : List V1} {ds : List DV} {us : List Value}, snapVs objs xs ds → us.length = xs.length →
    (∀ (i : Nat) x, xs[i]? = some x → ∃ u, us[i]? = some u ∧ RelV1 c objs w x u) → us.length = ds.length ∧ ∀ (i : Nat) d, ds[i]? = some d → ∃ u, us[i]? = some u ∧ RepDV w (· < w.heap.size) d u
  | [], [], us, _, hl, _ => ⟨hl, by simp⟩
  | [], _ :: _, _, h, _, _ => h.elim
  | .c _ :: _, [], _, h, _, _ => h.elim
  | .agg _ :: _, [], _, h, _, _ => h.elim
  | .c _ :: _, .agg _ :: _, _, h, _, _ => h.elim
  | .agg _ :: _, .c _ :: _, _, h, _, _ => h.elim
  | .c _ :: _, .c _ :: _, [], _, hl, _ => by simp at hl
  | .agg _ :: _, .agg _ :: _, [], _, hl, _ => by simp at hl
  | .c x :: r, .c d :: s, u :: us, h, hl, hx => by
    obtain ⟨k1, k2⟩ := rep_snapVs (P := P) hr h.2 (by simpa using hl) (fun i y hy => by simpa using hx (i + 1) y (by simpa using hy))
    obtain ⟨u', m1, m2⟩ := hx 0 _ rfl
    obtain rfl : u = u' := by simpa using m1
    refine ⟨by simp [k1], fun i d' hd => ?_⟩
    cases i with
    | zero => simp only [List.getElem?_cons_zero, Option.some.injEq] at hd ⊢; subst hd; exact ⟨u, rfl, rep_snap (P := P) hr h.1 m2⟩
    | succ i => simpa using k2 i d' (by simpa using hd)
  | .agg x :: r, .agg d :: s, u :: us, h, hl, hx => by
    obtain ⟨k1, k2⟩ := rep_snapVs (P := P) hr h.2 (by simpa using hl) (fun i y hy => by simpa using hx (i + 1) y (by simpa using hy))
    obtain ⟨u', m1, m2⟩ := hx 0 _ rfl
    obtain rfl : u = u' := by simpa using m1
    obtain ⟨vs, rfl, e2, e3⟩ := m2
    refine ⟨by simp [k1], fun i d' hd => ?_⟩
    cases i with
    | zero =>
      simp only [List.getElem?_cons_zero, Option.some.injEq] at hd
      subst hd
      obtain ⟨p1, p2⟩ := rep_snaps (P := P) (us := vs.toList) hr h.1 (by simpa using e2) (fun i x hi => by obtain ⟨u, q1, q2⟩ := e3 i x hi; exact ⟨u, by simpa using q1, q2⟩)
      exact ⟨_, rfl, vs, rfl, by simpa using p1, fun j y hy => by obtain ⟨u, q1, q2⟩ := p2 j y hy; exact ⟨u, by simpa using q1, q2⟩⟩
    | succ i => simpa using k2 i d' (by simpa using hd)

/-! What is handed back becomes objects of the caller's. -/

def unC (n : Nat) : DC → CV
  | .v x => constCV x
  | .list e xs => .sl n 0 e 0 xs.length none

def obC : DC → Objs
  | .v _ => []
  | .list e xs => [(0, .arr e xs)]

def obCs : List DC → Objs
  | [] => []
  | d :: r => obC d ++ obCs r

def unCs (n : Nat) : List DC → List CV
  | [] => []
  | d :: r => unC n d :: unCs (n + (obC d).length) r

def obVs : List DV → Objs
  | [] => []
  | .c d :: r => obC d ++ obVs r
  | .agg ds :: r => obCs ds ++ obVs r

def unVs (n : Nat) : List DV → List V1
  | [] => []
  | .c d :: r => .c (unC n d) :: unVs (n + (obC d).length) r
  | .agg ds :: r => .agg (unCs n ds) :: unVs (n + (obCs ds).length) r

def obR : DR → Objs
  | .one d => obVs [d]
  | .tup ds => obVs ds

def unR (n : Nat) : DR → SV
  | .one (.c d) => .one (.c (unC n d))
  | .one (.agg ds) => .one (.agg (unCs n ds))
  | .tup ds => .tup (unVs n ds)

/-- Two contexts that say the same of the objects from the first on. -/
structure SameAt (n : Nat) (c c' : Ctx) : Prop where
  φ : ∀ o, o < n → c'.φ o = c.φ o
  ψ : ∀ o, o < n → c'.ψ o = c.ψ o

theorem SameAt.at_new {c : Ctx} {n : Nat} {p : Option (Nat × Nat)} : SameAt n c (c.at n p) := ⟨fun _ ho => (at_other (by omega)).1, fun _ ho => (at_other (by omega)).2⟩

theorem SameAt.trans {n m : Nat} {c c' c'' : Ctx} (h : SameAt n c c') (g : SameAt m c' c'') (hm : n ≤ m) : SameAt n c c'' :=
  ⟨fun o ho => (g.φ o (by omega)).trans (h.φ o ho), fun o ho => (g.ψ o (by omega)).trans (h.ψ o ho)⟩

section more
variable {c c' : Ctx} {objs os : Objs} {w : World}

theorem live_append {o ver : Nat} (hlt : o < objs.length) : Live (objs ++ os) o ver ↔ Live objs o ver := by
  unfold Live; rw [List.getElem?_append_left hlt]

theorem known_append {o ver : Nat} (h : Known objs o ver) : Known (objs ++ os) o ver := by
  have := h.lt
  unfold Known at h ⊢; rw [List.getElem?_append_left this]; exact h

theorem ptrIs_append (hφ : SameAt objs.length c c') {o ver off : Nat} {v : Value} (h : PtrIs c objs o ver off v) : PtrIs c' (objs ++ os) o ver off v := by
  obtain ⟨h1, h2, h3⟩ := h
  refine ⟨h1, known_append h2, fun hl => ?_⟩
  rw [hφ.φ o h2.lt]
  exact h3 ((live_append h2.lt).1 hl)

theorem relCV_append (hφ : SameAt objs.length c c') (hR : c'.R = c.R) {x : CV} {v : Value} (h : RelCV c objs w x v) : RelCV c' (objs ++ os) w x v := by
  cases x with
  | d x => have h1 : Rep w c.R x v := h; rw [← hR] at h1; exact h1
  | nilsl => exact h
  | esl => exact h
  | ptr o ver off => exact ptrIs_append hφ h
  | eptr o ver e i j => exact ptrIs_append hφ h
  | ip e xs i j =>
    obtain ⟨b, off, u, h1, h2⟩ := h
    rw [← hR] at h1
    exact ⟨b, off, u, h1, h2⟩
  | sl o ver e off len cap =>
    obtain ⟨h1, h2, h3⟩ := h
    refine ⟨h1, known_append h2, fun hl => ?_⟩
    rw [hφ.φ o h2.lt]
    exact h3 ((live_append h2.lt).1 hl)
  | gsl o ver p e off len =>
    obtain ⟨h1, h2, h3⟩ := h
    refine ⟨h1, known_append h2, fun hl => ?_⟩
    rw [hφ.ψ o h2.lt]
    exact h3 ((live_append h2.lt).1 hl)
  | gptr o ver p e i j =>
    obtain ⟨h1, h2, h3⟩ := h
    refine ⟨h1, known_append h2, fun hl => ?_⟩
    rw [hφ.ψ o h2.lt]
    exact h3 ((live_append h2.lt).1 hl)
  | mp o ver =>
    obtain ⟨h1, h2, h3⟩ := h
    refine ⟨h1, known_append h2, fun hl => ?_⟩
    rw [hφ.φ o h2.lt]
    exact h3 ((live_append h2.lt).1 hl)
  | fn f caps =>
    obtain ⟨vs, h1, h2, h3⟩ := h
    refine ⟨vs, h1, h2, fun i o ver off hi => ?_⟩
    obtain ⟨u, k1, k2⟩ := h3 i o ver off hi
    exact ⟨u, k1, ptrIs_append hφ k2⟩

theorem relOB_append (hφ : SameAt objs.length c c') (hR : c'.R = c.R) {o : Nat} (ho : o < objs.length) {bd : OB} (h : RelOB c objs w o bd) : RelOB c' (objs ++ os) w o bd := by
  induction bd with
  | dead => exact trivial
  | box xs =>
    obtain ⟨b, base, cs, T, h1, h2, h3, h4⟩ := h
    exact ⟨b, base, cs, T, (hφ.φ o ho).trans h1, h2, h3, fun i x hx => by obtain ⟨u, k1, k2⟩ := h4 i x hx; exact ⟨u, k1, relCV_append hφ hR k2⟩⟩
  | arr e xs =>
    rcases h with ⟨h1, h2⟩ | ⟨b, base, cs, T, h1, h2, h3, h4, h5⟩
    · exact .inl ⟨(hφ.φ o ho).trans h1, h2⟩
    · exact .inr ⟨b, base, cs, T, (hφ.φ o ho).trans h1, h2, h3, h4, fun i j d hd => by rw [hR]; exact h5 i j d hd⟩
  | grid e xs =>
    obtain ⟨b, base, cs, T, h1, h2, h3, h4, h5, h6, h7⟩ := h
    refine ⟨b, base, cs, T, (hφ.φ o ho).trans h1, h2, h3, h4, fun i j g hg => ?_, by rw [hφ.ψ o ho]; exact h6, by rw [hφ.ψ o ho]; exact h7⟩
    obtain ⟨u, k1, k2⟩ := h5 i j g hg
    refine ⟨u, k1, ?_⟩
    cases g with
    | d x => have k3 : Rep w c.R x u := k2; rw [← hR] at k3; exact k3
    | row e ys =>
      obtain ⟨a, cp, m1, m2, m3, m4⟩ := k2
      refine ⟨a, cp, m1, m2, m3, fun h0 => ?_⟩
      rw [hφ.ψ o ho, hR]
      exact m4 h0
  | map n es =>
    obtain ⟨b, base, ents, clock, h1, h2, h3, h4, h5, h6⟩ := h
    exact ⟨b, base, ents, clock, (hφ.φ o ho).trans h1, h2, h3, h4, h5, by rw [hR]; exact h6⟩
  | fro r b ih => exact ⟨ih h.1, fun hr' k hk => by rw [hR]; exact h.2 hr' k (by unfold Ctx.has at hk ⊢; rw [← hφ.φ o ho, ← hφ.ψ o ho]; exact hk)⟩

end more

/-- A row that nobody owns becomes an object. -/
theorem adopt {c : Ctx} {objs : Objs} {w : World} {bd : OB} (hr : RelObjs c objs w) (p : Option (Nat × Nat)) (hp : ∀ b base, p = some (b, base) → (∀ o ver bd, objs[o]? = some (ver, bd) → bd ≠ .dead → ¬ c.has o b) ∧ ¬ c.R b ∧ b < w.heap.size)
    (hn : RelOB (c.at objs.length p) (objs ++ [(0, bd)]) w objs.length bd) : RelObjs (c.at objs.length p) (objs ++ [(0, bd)]) w := by
  -- only what is said of the objects is used, not of the blocks before
  have hcase : ∀ {o v b}, (objs ++ [(0, bd)])[o]? = some (v, b) → (o < objs.length ∧ objs[o]? = some (v, b)) ∨ (o = objs.length ∧ b = bd) := by
    intro o v b h
    by_cases e : o < objs.length
    · rw [List.getElem?_append_left e] at h
      exact .inl ⟨e, h⟩
    · have hlt := (List.getElem?_eq_some_iff.1 h).1
      simp at hlt
      obtain rfl : o = objs.length := by omega
      simp at h
      exact .inr ⟨rfl, h.2.symm⟩
  have hS : SameAt objs.length c (c.at objs.length p) := .at_new
  refine ⟨?_, ?_, hr.rsize, ?_, ?_⟩
  · intro o v b h
    rcases hcase h with ⟨h1, h2⟩ | ⟨rfl, rfl⟩
    · exact relOB_append hS rfl h1 (hr.ob o v b h2)
    · exact hn
  · intro o1 o2 v1 v2 b1 b2 b h1 h2 h3 h4 h5 h6
    rcases hcase h1 with ⟨k1, k2⟩ | ⟨rfl, _⟩ <;> rcases hcase h3 with ⟨m1, m2⟩ | ⟨rfl, _⟩
    · exact hr.inj o1 o2 v1 v2 b1 b2 b k2 h2 m2 h4 ((has_at_other (by omega)).1 h5) ((has_at_other (by omega)).1 h6)
    · obtain ⟨base, hb⟩ := has_at_self.1 h6
      exact ((hp b base hb).1 o1 v1 b1 k2 (OB.mine_live h2) ((has_at_other (by omega)).1 h5)).elim
    · obtain ⟨base, hb⟩ := has_at_self.1 h5
      exact ((hp b base hb).1 o2 v2 b2 m2 h4 ((has_at_other (by omega)).1 h6)).elim
    · rfl
  · intro o v b k h1 h2 h3
    rcases hcase h1 with ⟨k1, k2⟩ | ⟨rfl, _⟩
    · exact hr.lsize o v b k k2 h2 ((has_at_other (by omega)).1 h3)
    · obtain ⟨base, hb⟩ := has_at_self.1 h3
      exact (hp k base hb).2.2
  · intro b hb
    rcases own_append hb with h | ⟨base, h⟩
    · exact hr.oR b h
    · exact (hp b base h).2.1

/-- What holds of a world after objects have been added. -/
structure Added (c : Ctx) (objs : Objs) (w : World) (bs : List Nat) (c' : Ctx) (os : Objs) : Prop where
  rel : RelObjs c' (objs ++ os) w
  φ : SameAt objs.length c c'
  R : c'.R = c.R
  own : ∀ b, Own c' (objs ++ os) b → Own c objs b ∨ b ∈ bs
  live : ∀ o ver bd b, (objs ++ os)[o]? = some (ver, bd) → bd ≠ .dead → c'.has o b → (∃ ver bd, objs[o]? = some (ver, bd) ∧ bd ≠ .dead ∧ c.has o b) ∨ b ∈ bs

/-- No object that is there has block b. -/
def Free (c : Ctx) (objs : Objs) (b : Nat) : Prop := ∀ o ver bd, objs[o]? = some (ver, bd) → bd ≠ .dead → ¬ c.has o b

theorem free_append {c : Ctx} {objs : Objs} {b : Nat} {x : Nat × OB} {p : Option (Nat × Nat)} (h : Free c objs b) (hp : ∀ base, p ≠ some (b, base)) : Free (c.at objs.length p) (objs ++ [x]) b := by
  intro o ver bd h1 h2 h3
  by_cases e : o < objs.length
  · rw [List.getElem?_append_left e] at h1
    exact h o ver bd h1 h2 ((has_at_other (by omega)).1 h3)
  · have hlt := (List.getElem?_eq_some_iff.1 h1).1
    simp at hlt
    obtain rfl : o = objs.length := by omega
    obtain ⟨base, hb⟩ := has_at_self.1 h3
    exact hp base hb

theorem live_append' {c : Ctx} {objs : Objs} {x : Nat × OB} {p : Option (Nat × Nat)} {o ver b : Nat} {bd : OB} (h1 : (objs ++ [x])[o]? = some (ver, bd)) (h2 : bd ≠ .dead) (h3 : (c.at objs.length p).has o b) :
    (∃ ver bd, objs[o]? = some (ver, bd) ∧ bd ≠ .dead ∧ c.has o b) ∨ (o = objs.length ∧ ∃ base, p = some (b, base)) := by
  by_cases e : o < objs.length
  · rw [List.getElem?_append_left e] at h1
    exact .inl ⟨ver, bd, h1, h2, (has_at_other (by omega)).1 h3⟩
  · have hlt := (List.getElem?_eq_some_iff.1 h1).1
    simp at hlt
    obtain rfl : o = objs.length := by omega
    exact .inr ⟨rfl, has_at_self.1 h3⟩

theorem adopt_cells {w : World} {B : Nat} {ds : List DC} {us : List Value} {bs : List Nat} (hf : FreshCells B w ds us bs) : ∀ (c : Ctx) (objs : Objs), RelObjs c objs w → (∀ b ∈ bs, Free c objs b ∧ ¬ c.R b) →
    ∃ c', Added c objs w bs c' (obCs ds) ∧ us.length = (unCs objs.length ds).length ∧ ∀ (i : Nat) x, (unCs objs.length ds)[i]? = some x → ∃ u, us[i]? = some u ∧ RelCV c' (objs ++ obCs ds) w x u := by
  induction hf with
  | nil => intro c objs hr _; exact ⟨c, ⟨by simpa [obCs] using hr, ⟨fun _ _ => rfl, fun _ _ => rfl⟩, rfl, fun b hb => .inl (by simpa [obCs] using hb), fun o ver bd b h1 h2 h3 => .inl ⟨ver, bd, by simpa [obCs] using h1, h2, h3⟩⟩, rfl, by simp [unCs]⟩
  | v x h1 hf ih =>
    rename_i ds us bs
    intro c objs hr hb
    obtain ⟨c', hA, hl, hx⟩ := ih c objs hr hb
    refine ⟨c', hA, by simpa [unCs, obC] using hl, fun i y hy => ?_⟩
    cases i with
    | zero => simp only [unCs, unC, List.getElem?_cons_zero, Option.some.injEq] at hy; subst hy; exact ⟨x, rfl, rel_constCV _ _ _ _ h1⟩
    | succ i => simpa [unCs, obC, obCs] using hx i y (by simpa [unCs, obC] using hy)
  | none e a hf ih =>
    rename_i ds us bs
    intro c objs hr hb
    have hr1 := adopt (bd := .arr e []) hr none (fun _ _ h => by cases h) (.inl ⟨by simp [Ctx.at], rfl⟩)
    obtain ⟨c', hA, hl, hx⟩ := ih (c.at objs.length none) (objs ++ [(0, .arr e [])]) hr1 (fun b h => ⟨free_append (hb b h).1 (fun _ e => by cases e), (hb b h).2⟩)
    have he : objs ++ [(0, .arr e [])] ++ obCs ds = objs ++ obCs (.list e [] :: ds) := by simp [obCs, obC]
    rw [he] at hx
    refine ⟨c', ⟨he ▸ hA.rel, SameAt.at_new.trans hA.φ (by simp), hA.R, fun b ho => ?_, fun o ver bd b h1 h2 h3 => (hA.live o ver bd b (he ▸ h1) h2 h3).elim (fun ⟨v, x, k1, k2, k3⟩ => (live_append' k1 k2 k3).elim .inl (fun ⟨_, base, h⟩ => by cases h)) .inr⟩, by simpa [unCs, obC] using hl, fun i y hy => ?_⟩
    · rcases hA.own b (he ▸ ho) with h | h
      · rcases own_append h with h2 | ⟨base, h2⟩
        · exact .inl h2
        · cases h2
      · exact .inr h
    · cases i with
      | zero =>
        simp only [unCs, unC, List.getElem?_cons_zero, Option.some.injEq] at hy
        subst hy
        refine ⟨_, rfl, rfl, ⟨0, .arr e [], by rw [← he]; simp, Nat.le_refl _⟩, fun _ => ⟨a, 0, rfl, Nat.le_refl _, by simp [capOk], fun h => by omega⟩⟩
      | succ i => simpa using hx i y (by simpa [unCs, obC] using hy)
  | row e xs b off cap cs T hbn hB hh hc hs hl hrr hf ih =>
    rename_i ds us bs
    intro c objs hr hb
    have hbb := hb b (List.mem_cons_self ..)
    have hlt : b < w.heap.size := (Array.getElem?_eq_some_iff.1 hh).1
    have hm : xs.length * e ≤ cap * e := Nat.mul_le_mul_right e hc
    have hr1 := adopt (bd := .arr e xs) hr (some (b, off)) (fun b' base h => by simp only [Option.some.injEq, Prod.mk.injEq] at h; obtain ⟨rfl, rfl⟩ := h; exact ⟨hbb.1, hbb.2, hlt⟩)
      (.inr ⟨b, off, cs, T, by simp [Ctx.at], hh, by omega, hl, fun i j d hd => by obtain ⟨u, k1, k2⟩ := hrr i j d hd; exact ⟨u, k1, k2.mono (fun _ h => h.elim) (fun _ h => h.elim)⟩⟩)
    obtain ⟨c', hA, hlen, hx⟩ := ih (c.at objs.length (some (b, off))) (objs ++ [(0, .arr e xs)]) hr1 (fun b' h => ⟨free_append (hb b' (List.mem_cons_of_mem _ h)).1 (fun base h2 => by
      simp only [Option.some.injEq, Prod.mk.injEq] at h2
      exact hbn (h2.1 ▸ h)), (hb b' (List.mem_cons_of_mem _ h)).2⟩)
    have he : objs ++ [(0, .arr e xs)] ++ obCs ds = objs ++ obCs (.list e xs :: ds) := by simp [obCs, obC]
    rw [he] at hx
    refine ⟨c', ⟨he ▸ hA.rel, SameAt.at_new.trans hA.φ (by simp), hA.R, fun b' ho => ?_, fun o ver bd b' h1 h2 h3 => (hA.live o ver bd b' (he ▸ h1) h2 h3).elim
      (fun ⟨v, x, k1, k2, k3⟩ => (live_append' k1 k2 k3).elim .inl (fun ⟨_, base, h⟩ => .inr (by simp only [Option.some.injEq, Prod.mk.injEq] at h; rw [← h.1]; exact List.mem_cons_self ..))) (fun h => .inr (List.mem_cons_of_mem _ h))⟩, by simpa [unCs, obC] using hlen, fun i y hy => ?_⟩
    · rcases hA.own b' (he ▸ ho) with h | h
      · rcases own_append h with h2 | ⟨base, h2⟩
        · exact .inl h2
        · simp only [Option.some.injEq, Prod.mk.injEq] at h2
          obtain ⟨rfl, _⟩ := h2
          exact .inr (List.mem_cons_self ..)
      · exact .inr (List.mem_cons_of_mem _ h)
    · cases i with
      | zero =>
        simp only [unCs, unC, List.getElem?_cons_zero, Option.some.injEq] at hy
        subst hy
        refine ⟨_, rfl, rfl, ⟨0, .arr e xs, by rw [← he]; simp, Nat.le_refl _⟩, fun _ => ⟨some ⟨b, off, Option.none⟩, cap, rfl, hc, by simp [capOk], fun _ => ⟨b, off, cs, T, ?_, by simp, hh, by simpa using hs⟩⟩⟩
        rw [hA.φ.φ objs.length (by simp)]
        simp [Ctx.at]
      | succ i => simpa using hx i y (by simpa [unCs, obC] using hy)

theorem adopt_vs {w : World} {B : Nat} {ds : List DV} {us : List Value} {bs : List Nat} (hf : FreshVs B w ds us bs) : ∀ (c : Ctx) (objs : Objs), RelObjs c objs w → (∀ b ∈ bs, Free c objs b ∧ ¬ c.R b) →
    ∃ c', Added c objs w bs c' (obVs ds) ∧ us.length = (unVs objs.length ds).length ∧ ∀ (i : Nat) x, (unVs objs.length ds)[i]? = some x → ∃ u, us[i]? = some u ∧ RelV1 c' (objs ++ obVs ds) w x u := by
  induction hf with
  | nil => intro c objs hr _; exact ⟨c, ⟨by simpa [obVs] using hr, ⟨fun _ _ => rfl, fun _ _ => rfl⟩, rfl, fun b hb => .inl (by simpa [obVs] using hb), fun o ver bd b h1 h2 h3 => .inl ⟨ver, bd, by simpa [obVs] using h1, h2, h3⟩⟩, rfl, by simp [unVs]⟩
  | c hfc hf hd ih =>
    rename_i d u bs ds us cs
    intro c objs hr hb
    obtain ⟨c1, hA1, hl1, hx1⟩ := adopt_cells hfc c objs hr (fun b h => hb b (List.mem_append.2 (.inl h)))
    have e1 : obCs [d] = obC d := by simp [obCs]
    rw [e1] at hA1 hx1
    obtain ⟨c2, hA2, hl2, hx2⟩ := ih c1 (objs ++ obC d) hA1.rel (fun b h => ⟨fun o ver bd h1 h2 h3 => by
      rcases hA1.live o ver bd b h1 h2 h3 with ⟨v, x, k1, k2, k3⟩ | h2
      · exact (hb b (List.mem_append.2 (.inr h))).1 _ v x k1 k2 k3
      · exact hd b h2 h, by rw [hA1.R]; exact (hb b (List.mem_append.2 (.inr h))).2⟩)
    have he : objs ++ obC d ++ obVs ds = objs ++ obVs (.c d :: ds) := by simp [obVs]
    refine ⟨c2, ⟨he ▸ hA2.rel, hA1.φ.trans hA2.φ (by simp), hA2.R.trans hA1.R, fun b ho => ?_, fun o ver bd b h1 h2 h3 => (hA2.live o ver bd b (he ▸ h1) h2 h3).elim
      (fun ⟨v, x, k1, k2, k3⟩ => (hA1.live o v x b k1 k2 k3).imp id (fun h => List.mem_append.2 (.inl h))) (fun h => .inr (List.mem_append.2 (.inr h)))⟩, by simpa [unVs] using hl2, fun i y hy => ?_⟩
    · rcases hA2.own b (he ▸ ho) with h | h
      · exact (hA1.own b h).imp id (fun h => List.mem_append.2 (.inl h))
      · exact .inr (List.mem_append.2 (.inr h))
    · cases i with
      | zero =>
        simp only [unVs, List.getElem?_cons_zero, Option.some.injEq] at hy
        subst hy
        obtain ⟨u', m1, m2⟩ := hx1 0 (unC objs.length d) (by simp [unCs])
        obtain rfl : u = u' := by simpa using m1
        exact ⟨u, rfl, by rw [← he]; exact relCV_append hA2.φ hA2.R m2⟩
      | succ i => rw [← he]; simpa using hx2 i y (by simpa [unVs] using hy)
  | agg hfc hf hd ih =>
    rename_i xs vs bs ds us cs
    intro c objs hr hb
    obtain ⟨c1, hA1, hl1, hx1⟩ := adopt_cells hfc c objs hr (fun b h => hb b (List.mem_append.2 (.inl h)))
    obtain ⟨c2, hA2, hl2, hx2⟩ := ih c1 (objs ++ obCs xs) hA1.rel (fun b h => ⟨fun o ver bd h1 h2 h3 => by
      rcases hA1.live o ver bd b h1 h2 h3 with ⟨v, x, k1, k2, k3⟩ | h2
      · exact (hb b (List.mem_append.2 (.inr h))).1 _ v x k1 k2 k3
      · exact hd b h2 h, by rw [hA1.R]; exact (hb b (List.mem_append.2 (.inr h))).2⟩)
    have he : objs ++ obCs xs ++ obVs ds = objs ++ obVs (.agg xs :: ds) := by simp [obVs]
    refine ⟨c2, ⟨he ▸ hA2.rel, hA1.φ.trans hA2.φ (by simp), hA2.R.trans hA1.R, fun b ho => ?_, fun o ver bd b h1 h2 h3 => (hA2.live o ver bd b (he ▸ h1) h2 h3).elim
      (fun ⟨v, x, k1, k2, k3⟩ => (hA1.live o v x b k1 k2 k3).imp id (fun h => List.mem_append.2 (.inl h))) (fun h => .inr (List.mem_append.2 (.inr h)))⟩, by simpa [unVs] using hl2, fun i y hy => ?_⟩
    · rcases hA2.own b (he ▸ ho) with h | h
      · exact (hA1.own b h).imp id (fun h => List.mem_append.2 (.inl h))
      · exact .inr (List.mem_append.2 (.inr h))
    · cases i with
      | zero =>
        simp only [unVs, List.getElem?_cons_zero, Option.some.injEq] at hy
        subst hy
        refine ⟨_, rfl, vs, rfl, by simpa using hl1, fun j z hz => ?_⟩
        obtain ⟨u', m1, m2⟩ := hx1 j z hz
        exact ⟨u', by simpa using m1, by rw [← he]; exact relCV_append hA2.φ hA2.R m2⟩
      | succ i => rw [← he]; simpa using hx2 i y (by simpa [unVs] using hy)

/-- A CALL, by a contract on data. -/
theorem callP_fn {P : Program} {f : FuncId} {args : List DV} {res : DR} (h : Fn P f args res) {vs : List V1} {objs : Objs} {K : SV → Objs → Prop} (hs : snapVs objs vs args) (hk : K (unR objs.length res) (objs ++ obR res)) : CallP P f vs objs K := by
  obtain ⟨hent, hcall⟩ := h
  refine ⟨hent, fun c w vals hr hl hv => ?_⟩
  obtain ⟨k1, k2⟩ := rep_snapVs (P := P) (us := vals.toList) hr hs (by simpa using hl) (fun i x hx => by obtain ⟨u, m1, m2⟩ := hv i x hx; exact ⟨u, by simpa using m1, m2⟩)
  refine (hcall w vals (by simpa using k1) (fun i x hx => by obtain ⟨u, m1, m2⟩ := k2 i x hx; exact ⟨u, by simpa using m1, m2⟩)).mono ?_
  rintro e w' ⟨v, rfl, hb, hf⟩
  have hE0 : Ext objs.length c objs w c objs w' := by
    refine ⟨hb.size, hb.tape, hb.os, hb.output, fun b h _ => hb.block b h, fun b cs T h => ⟨cs, (hb.block b (Array.getElem?_eq_some_iff.1 h).1).trans h, rfl⟩, fun _ h => .inl h, fun _ h => h, fun _ h => .inl h, fun _ cur bd _ h => ⟨cur, bd, h, Nat.le_refl _, fun _ h => ⟨h, rfl, fun _ _ h => h⟩⟩⟩
  have hr' : RelObjs c objs w' := by
    refine ⟨fun o ver bd h => ?_, hr.inj, fun b h => Nat.lt_of_lt_of_le (hr.rsize b h) hb.size, fun o ver bd b h1 h2 h3 => Nat.lt_of_lt_of_le (hr.lsize o ver bd b h1 h2 h3) hb.size, hr.oR⟩
    by_cases hdead : bd = .dead
    · subst hdead; exact trivial
    · exact RelOB.keep hE0 (Nat.le_refl _) hr rfl rfl (fun b hp => hb.block b (hr.lsize o ver bd b h hdead hp)) (hr.ob o ver bd h)
  have fin : ∀ {ds : List DV} {us : List Value} {bs : List Nat}, FreshVs w.heap.size w' ds us bs → (∀ b ∈ bs, w.heap.size ≤ b) → ∃ c', Ext objs.length c objs w c' (objs ++ obVs ds) w' ∧ RelObjs c' (objs ++ obVs ds) w' ∧ us.length = (unVs objs.length ds).length ∧
      ∀ (i : Nat) x, (unVs objs.length ds)[i]? = some x → ∃ u, us[i]? = some u ∧ RelV1 c' (objs ++ obVs ds) w' x u := by
    intro ds us bs hf hbs
    obtain ⟨c', hA, hl', hx⟩ := adopt_vs hf c objs hr' (fun b h => ⟨fun o ver bd h1 h2 h3 => by have := hr.lsize o ver bd b h1 h2 h3; have := hbs b h; omega, fun hR => by have := hr.rsize b hR; have := hbs b h; omega⟩)
    refine ⟨c', ⟨hE0.size, hE0.tape, hE0.os, hE0.output, hE0.keep, hE0.shape, fun b h => (hA.own b h).imp id (hbs b), fun b h => by rw [hA.R]; exact h, fun b h => by rw [hA.R] at h; exact .inl h, fun o cur bd ho h => ⟨cur, bd, by rw [List.getElem?_append_left ho]; exact h, Nat.le_refl _, fun _ h => ⟨h, hA.φ.φ o ho, fun p x hx => by rw [hA.φ.ψ o ho]; exact hx⟩⟩⟩, hA.rel, hl', hx⟩
  have hcells : ∀ {ds us bs}, FreshCells w.heap.size w' ds us bs → ∀ b ∈ bs, w.heap.size ≤ b := by
    intro ds us bs h
    induction h with
    | nil => intro b hb; cases hb
    | v _ _ _ ih => exact ih
    | none _ _ _ ih => exact ih
    | row e xs b off cap cs T hbn hB hh hc hs hl hrr hf ih =>
      intro b' hb'
      rcases List.mem_cons.1 hb' with rfl | h
      · exact hB
      · exact ih b' h
  have hblocks : ∀ {ds us bs}, FreshVs w.heap.size w' ds us bs → ∀ b ∈ bs, w.heap.size ≤ b := by
    intro ds us bs h
    induction h with
    | nil => intro b hb; cases hb
    | c h1 _ _ ih => intro b hb'; exact (List.mem_append.1 hb').elim (hcells h1 b) (ih b)
    | agg h1 _ _ ih => intro b hb'; exact (List.mem_append.1 hb').elim (hcells h1 b) (ih b)
  cases res with
  | one d =>
    obtain ⟨bs, hf⟩ := hf
    obtain ⟨c', hE, hrr, hl', hx⟩ := fin hf (hblocks hf)
    refine ⟨v, c', _, unR objs.length (.one d), rfl, ⟨hb.size, hb.block⟩, hE, hrr, ?_, hk⟩
    cases d with
    | c d =>
      obtain ⟨u, m1, m2⟩ := hx 0 _ rfl
      obtain rfl : v = u := by simpa using m1
      exact m2
    | agg ds =>
      obtain ⟨u, m1, m2⟩ := hx 0 _ rfl
      obtain rfl : v = u := by simpa using m1
      exact m2
  | tup ds =>
    obtain ⟨us, bs, rfl, hf⟩ := hf
    obtain ⟨c', hE, hrr, hl', hx⟩ := fin hf (hblocks hf)
    exact ⟨_, c', _, unR objs.length (.tup ds), rfl, ⟨hb.size, hb.block⟩, hE, hrr, ⟨us, rfl, by simpa using hl', fun i x hi => by obtain ⟨u, m1, m2⟩ := hx i x hi; exact ⟨u, by simpa using m1, m2⟩⟩, hk⟩

theorem call_fn {P : Program} {f : FuncId} {args : List DV} {res : DR} (h : Fn P f args res) {vs : List V1} {objs : Objs} {K : SV → Objs → Prop} (hs : snapVs objs vs args) (hk : K (unR objs.length res) (objs ++ obR res)) : CallX P f vs objs K :=
  (callP_fn h hs hk).toX

theorem call_sn {P : Program} {f : FuncId} {args : List DV} {res : DR} {vs : List V1} {objs : Objs} {K : SV → Objs → Prop} (hs : snapVs objs vs args) (h : Fn P f args res) (hk : K (unR objs.length res) (objs ++ obR res)) : CallX P f vs objs K := call_fn h hs hk

theorem callP_sn {P : Program} {f : FuncId} {args : List DV} {res : DR} {vs : List V1} {objs : Objs} {K : SV → Objs → Prop} (hs : snapVs objs vs args) (h : Fn P f args res) (hk : K (unR objs.length res) (objs ++ obR res)) : CallP P f vs objs K := callP_fn h hs hk

/-- A call, by its callee's own text. -/
theorem call_body {G : Gen} {f : FuncId} {fn : Func} {cd : Code} {args : List V1} {objs : Objs} {K : SV → Objs → Prop} (hf : G.P.funcs[f]? = some fn) (hb : fn.body = some cd) (hname : (fn.name != "runtime.NumGoroutine") = true)
    (hn : args.length ≤ fn.ntmps) (h : bodyX G fn cd args objs K) : CallX G.P f args objs K := callX_of_body hf hb hname hn h

theorem fn_of_body {G : Gen} {f : FuncId} {fn : Func} {cd : Code} {args : List DV} {res : DR} (hf : G.P.funcs[f]? = some fn) (hb : fn.body = some cd) (hname : (fn.name != "runtime.NumGoroutine") = true)
    (hn : args.length ≤ fn.ntmps) (h : bodyX G fn cd (args.map DV.toV1) [] (fun sv objs => resOK objs sv res)) : Fn G.P f args res :=
  fn_of_call (callX_of_body hf hb hname (by simpa using hn) h)

theorem snap_row {α : Type} {xs : List α} {n : Nat} (h : n = xs.length) : xs = (xs.drop 0).take n := by subst h; simp

theorem snapRow {α : Type} {xs : List α} : xs = (xs.drop 0).take xs.length := by simp

abbrev dI (n : Int) : DC := .v (.int .i64 n)
abbrev dB (b : Bool) : DC := .v (.bool b)
abbrev aI (n : Int) : DV := .c (dI n)
abbrev aB (b : Bool) : DV := .c (dB b)

section
variable {objs : Objs} {x y : DC} {a : CV} {d : DC} {r : List CV} {s : List DC} {e : Nat} {xs : List (List DC)} {vr : List V1} {vs : List DV}
theorem snapC_sl {o ver e' off len : Nat} {cap : Option Nat} : snapC objs (.sl o ver e' off len cap) (.list e xs) = (match objRd objs o ver with
    | some (.arr e'' ys) => e' = e ∧ e'' = e' ∧ 0 < e' ∧ off + len ≤ ys.length ∧ xs = (ys.drop off).take len
    | some (.box cs) => e' = e ∧ e' = 1 ∧ off + len ≤ cs.length ∧ boxRow ((cs.drop off).take len) = some xs
    | _ => False) := rfl
end

end Go.Proofs.Ytmfdkjjhdjkgpaa

namespace Go.Proofs.Ytmfdkjjhdjkgpaa
open Go Go.RowKit

inductive Sh where
  | int (k : IntKind)
  | bool
  | str
  | slice (fs : List Sh)

inductive DCok : Sh → DC → Prop
  | int (k : IntKind) (n : Int) (h : (Lit.int k n).wf = true) : DCok (.int k) (.v (.int k n))
  | bool (b : Bool) : DCok .bool (.v (.bool b))
  | str (s : ByteArray) (h : s.size ≤ maxLen) : DCok .str (.v (.string s))
  | slice (fs : List Sh) (xs : List (List DC)) (hl : xs.length ≤ maxLen) (hx : ∀ x ∈ xs, x.length = fs.length)
      (h : ∀ (x : List DC) (j : Nat) (d : DC) (s : Sh), x ∈ xs → x[j]? = some d → fs[j]? = some s → DCok s d) : DCok (.slice fs) (.list fs.length xs)

def shFields (P : Program) (r : TypeId → Option (List Sh)) : List Field → Nat → Option (List Sh)
  | [], _ => some []
  | f :: fs, off =>
    match r f.type with
    | some a => if f.offset = off ∧ P.cellsOf f.type = a.length then (shFields P r fs (off + a.length)).map (a ++ ·) else none
    | none => none

/-- The cells of a type's values. -/
def shOf (P : Program) : Nat → TypeId → Option (List Sh)
  | 0, _ => none
  | n + 1, t =>
    match P.underlying t with
    | some .bool => some [.bool]
    | some (.int k) => some [.int k]
    | some .string => some [.str]
    | some (.slice e) =>
      match shOf P n e with
      | some fs => if P.cellsOf e = fs.length ∧ 0 < fs.length then some [.slice fs] else none
      | none => none
    | some (.struct fs) =>
      match shFields P (shOf P n) fs.toList 0 with
      | some sh => if P.cellsOf t = sh.length then some sh else none
      | none => none
    | _ => none

inductive Good (w : World) (R : Nat → Prop) : List Sh → List DC → List Value → Prop
  | nil : Good w R [] [] []
  | cons {s d v ss ds vs} (h : DCok s d) (h' : Rep w R d v) (hr : Good w R ss ds vs) : Good w R (s :: ss) (d :: ds) (v :: vs)

section
variable {w : World} {R : Nat → Prop}

theorem Good.append {a b : List Sh} {ds es : List DC} {us vs : List Value} (h : Good w R a ds us) (g : Good w R b es vs) : Good w R (a ++ b) (ds ++ es) (us ++ vs) := by
  induction h with
  | nil => exact g
  | cons h h' _ ih => exact .cons h h' ih

theorem Good.len {a : List Sh} {ds : List DC} {us : List Value} (h : Good w R a ds us) : ds.length = a.length ∧ us.length = a.length := by
  induction h with
  | nil => exact ⟨rfl, rfl⟩
  | cons _ _ _ ih => simp [ih.1, ih.2]

theorem Good.get {a : List Sh} {ds : List DC} {us : List Value} (h : Good w R a ds us) : ∀ (j : Nat) (d : DC), ds[j]? = some d → ∃ s u, a[j]? = some s ∧ us[j]? = some u ∧ DCok s d ∧ Rep w R d u := by
  induction h with
  | nil => intro j d hd; simp at hd
  | cons h h' _ ih =>
    intro j d hd
    cases j with
    | zero => obtain rfl : _ = d := by simpa using hd
              exact ⟨_, _, rfl, rfl, h, h'⟩
    | succ j => exact ih j d (by simpa using hd)

theorem list_of_all {α : Type} {p : Nat → α → Prop} : ∀ (n : Nat), (∀ i, i < n → ∃ x, p i x) → ∃ xs : List α, xs.length = n ∧ ∀ (i : Nat) x, xs[i]? = some x → p i x
  | 0, _ => ⟨[], rfl, by simp⟩
  | n + 1, h => by
    obtain ⟨xs, h1, h2⟩ := list_of_all n (fun i hi => h i (by omega))
    obtain ⟨x, hx⟩ := h n (by omega)
    refine ⟨xs ++ [x], by simp [h1], fun i y hy => ?_⟩
    by_cases hi : i < n
    · rw [List.getElem?_append_left (by omega)] at hy; exact h2 i y hy
    · rw [List.getElem?_append_right (by omega)] at hy
      by_cases h3 : i = n
      · subst h3
        obtain rfl : x = y := by simpa [h1] using hy
        exact hx
      · rw [List.getElem?_eq_none (by simp; omega)] at hy; cases hy

variable {H : Type} {enc : TypeId × Value → H} {P : Program} {base : Nat} {spare : Nat → Bool} {held : Bool}

theorem good_fields {r : TypeId → Option (List Sh)} {cs : List Value} : ∀ (fs : List Field) (off : Nat) (sh : List Sh), shFields P r fs off = some sh →
    (∀ f ∈ fs, ∀ a, r f.type = some a → ∃ ds, Good w R a ds ((cs.drop f.offset).take (P.cellsOf f.type))) → ∃ ds, Good w R sh ds ((cs.drop off).take sh.length)
  | [], off, sh, h, _ => by
    obtain rfl : [] = sh := by simpa [shFields] using h
    exact ⟨[], by simpa using Good.nil⟩
  | f :: fs, off, sh, h, hf => by
    unfold shFields at h
    split at h
    · rename_i a ha
      split at h
      · rename_i hc
        simp only [Option.map_eq_some_iff] at h
        obtain ⟨sh', h1, rfl⟩ := h
        obtain ⟨ds, h2⟩ := hf f (by simp) a ha
        obtain ⟨es, h3⟩ := good_fields fs (off + a.length) sh' h1 (fun g hg b hb => hf g (by simp [hg]) b hb)
        rw [hc.1, hc.2] at h2
        refine ⟨ds ++ es, ?_⟩
        rw [List.length_append, List.take_add, List.drop_drop]
        exact h2.append h3
      · cases h
    · cases h

theorem good_of_trod : ∀ (n : Nat) {t : TypeId} {sh : List Sh} {m : Nat} {cs : List Value} {y : DataW H × List MemPlace}, shOf P n t = some sh → DataW.trod enc P w base spare held m t cs = some y →
    ∃ ds, Good w (· < w.heap.size) sh ds cs
  | 0, _, _, _, _, _, h, _ => by cases h
  | n + 1, t, sh, m, cs, y, h, ht => by
    unfold shOf at h
    split at h
    · rename_i hu
      obtain rfl : [Sh.bool] = sh := by simpa using h
      obtain ⟨b, rfl, _⟩ := DataW.trod_bool hu ht
      exact ⟨[.v (.bool b)], .cons (.bool b) (.v _ rfl) .nil⟩
    · rename_i k hu
      obtain rfl : [Sh.int k] = sh := by simpa using h
      obtain ⟨b, rfl, _, hw⟩ := DataW.trod_int hu ht
      exact ⟨[.v (.int k b)], .cons (.int k b hw) (.v _ rfl) .nil⟩
    · rename_i hu
      obtain rfl : [Sh.str] = sh := by simpa using h
      obtain ⟨b, rfl, _, hw⟩ := DataW.trod_string hu ht
      exact ⟨[.v (.string b)], .cons (.str b hw) (.v _ rfl) .nil⟩
    · rename_i e hu
      split at h
      · rename_i fs hfs
        split at h
        · rename_i hc
          obtain rfl : [Sh.slice fs] = sh := by simpa using h
          rcases DataW.trod_slice hu ht with ⟨rfl, _⟩ | ⟨a, len, cap, elems, rest, k, rfl, rfl, _, _, hlc, hcm, hlen, hel, _, _⟩
          · exact ⟨[.list fs.length []], .cons (.slice fs [] (by simp) (by simp) (by simp)) (.list _ [] none 0 (fun _ _ => undef) (Nat.le_refl _) (by simp) (by simp) (by simp)) .nil⟩
          · obtain ⟨xs, hxl, hxs⟩ := list_of_all (p := fun i ds => ∃ vs, w.cells? base (a.add (i * P.cellsOf e)) (P.cellsOf e) = some vs ∧ Good w (· < w.heap.size) fs ds vs) len (fun i hi => by
              have h1 := hel i hi
              rw [List.getElem?_eq_getElem (by omega)] at h1
              obtain ⟨vs, h2, h3⟩ := Option.bind_eq_some_iff.1 h1
              obtain ⟨ds, h4⟩ := good_of_trod n hfs h3
              exact ⟨ds, vs, h2, h4⟩)
            subst hxl
            have hlens : ∀ x ∈ xs, x.length = fs.length := by
              intro x hx
              obtain ⟨i, hi⟩ := List.getElem?_of_mem hx
              obtain ⟨vs, _, h2⟩ := hxs i x hi
              exact h2.len.1
            refine ⟨[.list fs.length xs], .cons (.slice fs xs (by omega) hlens ?_) ?_ .nil⟩
            · intro x j d s hx hd hs
              obtain ⟨i, hi⟩ := List.getElem?_of_mem hx
              obtain ⟨vs, _, h2⟩ := hxs i x hi
              obtain ⟨s', u, k1, _, k3, _⟩ := h2.get j d hd
              rw [k1] at hs
              cases hs
              exact k3
            · have hcell : ∀ (i j : Nat) x, xs[i]? = some x → j < fs.length → ∃ u, w.cell? ((a.add (i * P.cellsOf e)).add j) = some u ∧ ∀ d, x[j]? = some d → Rep w (· < w.heap.size) d u := by
                intro i j x hx hj
                obtain ⟨vs, h1, h2⟩ := hxs i x hx
                obtain ⟨_, h3, h4⟩ := World.cells?_some h1
                have h5 := h4 j (by omega)
                rw [List.getElem?_eq_getElem (by omega)] at h5
                refine ⟨_, h5, fun d hd => ?_⟩
                obtain ⟨s, u, _, k2, _, k4⟩ := h2.get j d hd
                rw [List.getElem?_eq_getElem (by omega)] at k2
                cases k2
                exact k4
              have hspot : 0 < xs.length → a.spot = none ∧ a.block < w.heap.size := by
                intro h0
                obtain ⟨u, h1, _⟩ := hcell 0 0 xs[0] (List.getElem?_eq_getElem h0) hc.2
                simp only [Nat.zero_mul, Addr.add, if_true] at h1
                unfold World.cell? at h1
                split at h1
                · rename_i hb
                  split at h1
                  · cases h1
                  · rename_i hsp
                    exact ⟨by simpa using hsp, (Array.getElem?_eq_some_iff.1 hb).1⟩
                · cases h1
              have hadd : 0 < xs.length → ∀ i j, (a.add (i * P.cellsOf e)).add j = ⟨a.block, a.off + (i * fs.length + j), none⟩ := by
                intro h0 i j
                have := (hspot h0).1
                rw [hc.1]
                obtain ⟨b, o, sp⟩ := a
                simp only at this
                subst this
                unfold Addr.add
                by_cases h1 : i * fs.length = 0 <;> by_cases h2 : j = 0 <;> simp_all [Nat.add_assoc]
              refine .list _ xs (some a) cap (fun i j => (w.cell? ⟨a.block, a.off + (i * fs.length + j), none⟩).getD undef) hlc hlens ?_ ?_
              · intro i j hi hj
                obtain ⟨u, h1, _⟩ := hcell i j _ (List.getElem?_eq_getElem hi) hj
                have h0 : 0 < xs.length := by omega
                rw [hadd h0] at h1
                refine ⟨a.block, a.off, ?_, (hspot h0).2, by rw [h1]; rfl⟩
                have := (hspot h0).1
                obtain ⟨b, o, sp⟩ := a
                simp only at this
                rw [this]
              · intro i j d hd
                obtain ⟨x, hx, hj⟩ := Option.bind_eq_some_iff.1 hd
                have hi : i < xs.length := (List.getElem?_eq_some_iff.1 hx).1
                have hj' : j < fs.length := by
                  rw [← hlens x (List.mem_of_getElem? hx)]; exact (List.getElem?_eq_some_iff.1 hj).1
                obtain ⟨u, h1, h2⟩ := hcell i j x hx hj'
                rw [hadd (by omega)] at h1
                rw [h1]
                exact h2 d hj
        · cases h
      · cases h
    · rename_i fs hu
      split at h
      · rename_i sh' hsh
        split at h
        · rename_i hc
          obtain rfl : sh' = sh := by simpa using h
          obtain ⟨xs, k, rfl, _, hl, hxl, hf⟩ := DataW.trod_struct hu ht
          obtain ⟨ds, hg⟩ := good_fields (cs := cs) (w := w) (R := (· < w.heap.size)) fs.toList 0 sh' hsh (fun f hf' a ha => by
            obtain ⟨i, hi⟩ := List.getElem?_of_mem hf'
            have hi' : fs[i]? = some f := by simpa using hi
            have h1 := hf i f hi'
            rw [List.getElem?_eq_getElem (by rw [hxl]; exact (Array.getElem?_eq_some_iff.1 hi').1)] at h1
            exact good_of_trod n ha h1)
          refine ⟨ds, ?_⟩
          rwa [List.drop_zero, List.take_of_length_le (by omega)] at hg
        · cases h
      · cases h
    · cases h

/-- A struct that comes in. -/
theorem agg_of_trod {n : Nat} {t : TypeId} {sh : List Sh} {fs : Array Field} {r : Reach} {b0 : Nat} {v : Value} {d : DataW H} {p : List MemPlace} (hu : P.underlying t = some (.struct fs)) (hs : shOf P n t = some sh)
    (hv : Value.okWide P w r b0 t v) (h : DataW.Trod enc P w base spare held t v d p) : ∃ ds, RepDV w (· < w.heap.size) (.agg ds) v ∧ ∃ us, Good w (· < w.heap.size) sh ds us := by
  obtain ⟨cs, rfl, _⟩ := WideShapes.okWide_struct hu hv
  obtain ⟨m, hm⟩ := h
  obtain ⟨ds, hg⟩ := good_of_trod n hs hm
  have hl := hg.len
  simp only [Value.cells] at hg hl
  refine ⟨ds, ⟨cs, rfl, by have := hl.2; simp at this; omega, fun i x hx => ?_⟩, _, hg⟩
  obtain ⟨s, u, _, h2, _, h4⟩ := hg.get i x hx
  exact ⟨u, by simpa using h2, h4⟩

end

end Go.Proofs.Ytmfdkjjhdjkgpaa

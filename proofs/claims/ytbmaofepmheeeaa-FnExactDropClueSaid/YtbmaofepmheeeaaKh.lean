/- The executor is sound: appends, slices cut, rows made. -/
import Derived.Test.YtbmaofepmheeeaaKg
namespace Go.Proofs.Ytbmaofepmheeeaa
open Go Go.RowKit

/-- An empty row that lies nowhere yet. -/
theorem ghost_ext {c : Ctx} {objs : Objs} {w : World} (hr : RelObjs c objs w) (ver e : Nat) :
    Ext objs.length c objs w (c.at objs.length none) (objs ++ [(ver, .arr e [])]) w ∧ RelObjs (c.at objs.length none) (objs ++ [(ver, .arr e [])]) w := by
  have hE : Ext objs.length c objs w (c.at objs.length none) (objs ++ [(ver, .arr e [])]) w := by
    refine ⟨Nat.le_refl _, rfl, rfl, rfl, fun _ _ _ => rfl, fun _ cs _ h => ⟨cs, h, rfl⟩, fun b hb => ?_, fun _ h => h, fun _ h => .inl h, fun o cur bd ho h1 => ?_⟩
    · rcases own_append hb with h | ⟨base, h⟩
      · exact .inl h
      · cases h
    · exact ⟨cur, bd, by rw [List.getElem?_append_left ho]; exact h1, Nat.le_refl _, fun _ h => ⟨h, (at_other (by omega)).1, fun p x hx => by rw [(at_other (by omega)).2]; exact hx⟩⟩
  exact ⟨hE, add_objs hr hE (fun _ _ => rfl) (fun _ _ h => by cases h) (.inl ⟨by simp [Ctx.at], rfl⟩)⟩

/-- An object gets a new version, at a place of its own. -/
theorem repl_ok {c : Ctx} {objs : Objs} {w w' : World} {o ver : Nat} {bd bd' : OB} {p : Option (Nat × Nat)} (hr : RelObjs c objs w)
    (ho : objs[o]? = some (ver, bd)) (hd : bd.mine = true) (hsize : w.heap.size ≤ w'.heap.size) (ht : w'.tape = w.tape) (hos : w'.os = w.os) (hout : w'.output = w.output)
    (hkeep : ∀ k : Nat, k < w.heap.size → (∀ base, c.φ o ≠ some (k, base)) → w'.heap[k]? = w.heap[k]?)
    (hshape : ∀ (b : Nat) cs T, w.heap[b]? = some (Obj.cells cs T (0, 0)) → ∃ cs', w'.heap[b]? = some (Obj.cells cs' T (0, 0)) ∧ cs'.size = cs.size)
    (hp : ∀ b base, p = some (b, base) → (∃ base', c.φ o = some (b, base')) ∨ (w.heap.size ≤ b ∧ b < w'.heap.size))
    (hn : Ext objs.length c objs w (c.at o p) (objs.set o (ver + 1, bd')) w' → RelOB (c.at o p) (objs.set o (ver + 1, bd')) w' o bd') :
    Ext objs.length c objs w (c.at o p) (objs.set o (ver + 1, bd')) w' ∧ RelObjs (c.at o p) (objs.set o (ver + 1, bd')) w' := by
  have hown : ∀ b, Own (c.at o p) (objs.set o (ver + 1, bd')) b → (∃ o' v x, o' ≠ o ∧ objs[o']? = some (v, x) ∧ x.mine = true ∧ c.has o' b) ∨ (∃ base, p = some (b, base)) := by
    rintro b ⟨o', v, x, h1, h2, h3⟩
    rcases set_cases ho h1 with ⟨rfl, h4⟩ | ⟨hne, h4⟩
    · exact .inr (has_at_self.1 h3)
    · exact .inl ⟨o', v, x, hne, h4, h2, (has_at_other hne).1 h3⟩
  have hown2 : ∀ b, Own (c.at o p) (objs.set o (ver + 1, bd')) b → Own c objs b ∨ (w.heap.size ≤ b ∧ b < w'.heap.size) := by
    intro b hb
    rcases hown b hb with ⟨o', v, x, _, h4, h2, h3⟩ | ⟨base, h⟩
    · exact .inl (.mk' h4 h2 h3)
    · rcases hp b base h with ⟨base', h5⟩ | h5
      · exact .inl (.of ho hd h5)
      · exact .inr h5
  have hE : Ext objs.length c objs w (c.at o p) (objs.set o (ver + 1, bd')) w' := by
    refine ⟨hsize, ht, hos, hout, ?_, hshape, fun b hb => (hown2 b hb).imp id (·.1), fun _ h => h, fun _ h => .inl h, ?_⟩
    · intro b hb hno
      exact hkeep b hb (fun base h => hno (.of ho hd h))
    · intro o' cur bd2 _ h1
      by_cases e : o' = o
      · subst e
        rw [ho] at h1
        obtain ⟨rfl, rfl⟩ : ver = cur ∧ bd = bd2 := by simpa using h1
        exact ⟨_, _, getElem?_set_self' ho, by omega, fun h _ => by omega⟩
      · exact ⟨cur, bd2, by rw [List.getElem?_set_ne (Ne.symm e)]; exact h1, Nat.le_refl _, fun _ h => ⟨h, (at_other e).1, fun q x hx => by rw [(at_other e).2]; exact hx⟩⟩
  refine ⟨hE, ?_, ?_, ?_, ?_, ?_⟩
  · intro o' v x h1
    rcases set_cases ho h1 with ⟨rfl, h4⟩ | ⟨hne, h4⟩
    · obtain ⟨rfl, rfl⟩ : v = ver + 1 ∧ x = bd' := by simpa using h4
      exact hn hE
    · by_cases hdead : x = .dead
      · subst hdead; exact trivial
      refine RelOB.keep hE (Nat.le_refl _) hr (at_other hne).1 (at_other hne).2 (fun b hpp => hkeep b (hr.lsize o' v x b h4 hdead hpp) ?_) (hr.ob o' v x h4)
      intro base' hpo
      exact hne (hr.inj o o' ver v bd x b ho hd h4 hdead (.inl ⟨_, hpo⟩) hpp).symm
  · intro o1 o2 v1 v2 b1 b2 b h1 h2 h3 h4 h5 h6
    rcases set_cases ho h1 with ⟨rfl, k1⟩ | ⟨hne1, k1⟩ <;> rcases set_cases ho h3 with ⟨rfl, k2⟩ | ⟨hne2, k2⟩
    · rfl
    · obtain ⟨base1, h5⟩ := has_at_self.1 h5
      rw [has_at_other hne2] at h6
      rcases hp b base1 h5 with ⟨base', h7⟩ | h7
      · exact hr.inj _ _ _ _ _ _ b ho hd k2 h4 (.inl ⟨_, h7⟩) h6
      · have := hr.lsize _ _ _ b k2 h4 h6; omega
    · obtain ⟨base2, h6⟩ := has_at_self.1 h6
      rw [has_at_other hne1] at h5
      rcases hp b base2 h6 with ⟨base', h7⟩ | h7
      · exact hr.inj _ _ _ _ _ _ b k1 h2 ho (OB.mine_live hd) h5 (.inl ⟨_, h7⟩)
      · have := hr.lsize _ _ _ b k1 (OB.mine_live h2) h5; omega
    · rw [has_at_other hne1] at h5
      rw [has_at_other hne2] at h6
      exact hr.inj _ _ _ _ _ _ b k1 h2 k2 h4 h5 h6
  · intro b hb
    have := hr.rsize b hb
    omega
  · intro o' v x b h1 h2 h3
    rcases set_cases ho h1 with ⟨rfl, h4⟩ | ⟨hne, h4⟩
    · obtain ⟨base, h3⟩ := has_at_self.1 h3
      rcases hp b base h3 with ⟨base', h7⟩ | h7
      · have := hr.lsize _ _ _ b ho (OB.mine_live hd) (.inl ⟨_, h7⟩); omega
      · exact h7.2
    · have := hr.lsize _ _ _ b h4 h2 ((has_at_other hne).1 h3); omega
  · intro b hb
    rcases hown2 b hb with h | h
    · exact hr.oR b h
    · intro hR
      have := hr.rsize b hR; omega

theorem nextslicecap_le {need old : Nat} (h : old < need) : Builtin.nextslicecap need old ≤ 2 * need := by
  unfold Builtin.nextslicecap
  split
  · omega
  · split
    · omega
    · have grow : ∀ (r k : Nat), 256 ≤ k → k < need → Builtin.growBy need r k ≤ 2 * need := by
        intro r
        induction r with
        | zero => intro k hk h1; unfold Builtin.growBy; omega
        | succ r ih =>
          intro k hk h1
          unfold Builtin.growBy
          split
          · omega
          · by_cases h1 : k + (k + 768) / 4 < need
            · exact ih _ (by omega) h1
            · cases r with
              | zero => unfold Builtin.growBy; omega
              | succ r => unfold Builtin.growBy; rw [if_pos (by omega)]; omega
      exact grow 4 old (by omega) h

theorem run_append {P : Program} {t t' e : TypeId} {E : TyI} (hu : P.underlying t = some (.slice e)) (hu' : (∃ e', P.underlying t' = some (.slice e'))) (hE : TyFacts P e E) (ty : TypeId) (w : World)
    {a b : Option Addr} {sl sc xl xc : Nat} {us vs : List Value}
    (hs : ∀ w' : World, w'.heap = w.heap → (Builtin.firstCells E.size sl (.slice a sl sc)).run P w' = .ok us.toArray w') (hx : ∀ w' : World, w'.heap = w.heap → (Builtin.firstCells E.size xl (.slice b xl xc)).run P w' = .ok vs.toArray w')
    (hb : (sl + xl) * E.bytes ≤ 2 ^ 40) (hb2 : sl + xl ≤ 2 ^ 40) :
    (sl + xl ≤ sc ∧ (Builtin.append_ #[t, t'] ty #[.slice a sl sc, .slice b xl xc]).run P w =
        match a with
        | none => .ok (.slice none (sl + xl) sc) w
        | some ad => ((storeCells (ad.add (sl * E.size)) vs).run P w).andThen fun _ w => .ok (.slice (some ad) (sl + xl) sc) w) ∨
    (sc < sl + xl ∧ ∃ (cap : Nat) (rest : List Value), sl + xl ≤ cap ∧ rest.length = (cap - (sl + xl)) * E.size ∧
      (Builtin.append_ #[t, t'] ty #[.slice a sl sc, .slice b xl xc]).run P w = .ok (.slice (some ⟨w.heap.size, 0, none⟩) (sl + xl) cap) (w.drew.alloc (.cells (us ++ vs ++ rest).toArray e))) := by
  obtain ⟨e', hu'⟩ := hu'
  have hx1 := hx w rfl
  by_cases hc : sl + xl ≤ sc
  · refine .inl ⟨hc, ?_⟩
    cases a with
    | none => simp [Builtin.append_, run_underlying hu, run_underlying hu', hE.run_sizeOf, Builtin.lenOf, hc, hx1]
    | some ad => simp [Builtin.append_, run_underlying hu, run_underlying hu', hE.run_sizeOf, Builtin.lenOf, hc, hx1]
  · refine .inr ⟨by omega, ?_⟩
    have hbytes : hE.i.bytes = E.bytes := hE.bytes.symm
    have hlt : sc < sl + xl := by omega
    have hnc : ¬ (2 ^ 48 < Builtin.nextslicecap (sl + xl) sc * E.bytes) := by
      have h1 : Builtin.nextslicecap (sl + xl) sc * E.bytes ≤ (2 * (sl + xl)) * E.bytes := Nat.mul_le_mul_right _ (nextslicecap_le hlt)
      have h2 : (2 * (sl + xl)) * E.bytes = 2 * ((sl + xl) * E.bytes) := by rw [Nat.mul_assoc]
      omega
    have hmx : ¬ ((9223372036854775807 : Int) < (sl : Int) + (xl : Int)) := by omega
    let cap : Nat := (sl + xl) + (w.tape w.drawn (.appendCap (sl + xl) sc e)) % (2 ^ 63 - (sl + xl))
    have hz : hE.z.cells.size = E.size := by rw [hE.zsize, hE.size]
    have hask : ∀ n w', (askRoom n).run P w' = .ok () w' := by
      intro n w'
      unfold askRoom
      split <;> simp [mark, Sem.run]
    refine ⟨cap, (Builtin.zeroCells hE.z.cells (cap - (sl + xl))).toList, by simp [cap], by simp [Builtin.zeroCells, hz], ?_⟩
    simp [Builtin.append_, run_underlying hu, run_underlying hu', hE.run_sizeOf, hE.run_typeInfo, hE.run_zero, Builtin.lenOf, hc, hnc, hbytes, hmx, hask, hs w.drew rfl, hx w.drew rfl, newRow, Question.forced, Question.cut, cap]
    congr 2
    apply Array.ext'
    simp

theorem heap_drew (w : World) : w.drew.heap = w.heap := rfl

/-- Nothing but the count of draws may have changed. -/
theorem same_ext {c : Ctx} {objs : Objs} {w w' : World} (hh : w'.heap = w.heap) (ht : w'.tape = w.tape) (ho : w'.os = w.os) (hu : w'.output = w.output) (n : Nat) : Ext n c objs w c objs w' := by
  refine ⟨by rw [hh]; exact Nat.le_refl _, ht, ho, hu, fun _ _ _ => by rw [hh], fun _ cs _ h => ⟨cs, by rw [hh]; exact h, rfl⟩, fun _ h => .inl h, fun _ h => h, fun _ h => .inl h, fun _ cur bd _ h => ⟨cur, bd, h, Nat.le_refl _, fun _ h => ⟨h, rfl, fun _ _ h => h⟩⟩⟩

theorem same_objs {c : Ctx} {objs : Objs} {w w' : World} (hh : w'.heap = w.heap) (ht : w'.tape = w.tape) (ho : w'.os = w.os) (hu : w'.output = w.output) (hr : RelObjs c objs w) : RelObjs c objs w' := by
  have hE := same_ext (c := c) (objs := objs) hh ht ho hu objs.length
  refine ⟨fun o v b h => RelOB.keep hE (Nat.le_refl _) hr rfl rfl (fun _ _ => by rw [hh]) (hr.ob o v b h), hr.inj, fun b hb => by rw [hh]; exact hr.rsize b hb, fun o v bd b h1 h2 h3 => by rw [hh]; exact hr.lsize o v bd b h1 h2 h3, hr.oR⟩

theorem relOB_row {c : Ctx} {objs : Objs} {w : World} {o e b base : Nat} {ys : List (List DC)} {us : List Value} {cs : Array Value} {T : TypeId} (hφ : c.φ o = some (b, base)) (hb : w.heap[b]? = some (.cells cs T (0, 0)))
    (hrow : RepRow w c.R e ys us) (hsz : base + ys.length * e ≤ cs.size) (hcl : ∀ (p : Nat) u, us[p]? = some u → cs[base + p]? = some u) : RelOB c objs w o (.arr e ys) := by
  refine .inr ⟨b, base, cs, T, hφ, hb, hsz, hrow.lens, fun i j d hd => ?_⟩
  obtain ⟨u, h1, h2⟩ := hrow.rep i j d hd
  exact ⟨u, hcl _ u h1, h2⟩

theorem RepRow.ext {n : Nat} {c c' : Ctx} {objs objs' : Objs} {w w' : World} {e : Nat} {ys : List (List DC)} {us : List Value} (h : Ext n c objs w c' objs' w') (hr : RelObjs c objs w) (hrow : RepRow w c.R e ys us) : RepRow w' c'.R e ys us :=
  ⟨hrow.len, hrow.lens, fun i j d hd => by obtain ⟨u, h1, h2⟩ := hrow.rep i j d hd; exact ⟨u, h1, h.rep hr h2⟩⟩

/-- Append to a row of the call's own. -/
theorem run_append_sl {P : Program} {t t' te : TypeId} {E : TyI} (hu : P.underlying t = some (.slice te)) (hu' : (∃ e', P.underlying t' = some (.slice e'))) (hE : TyFacts P te E) (hpos : 0 < E.size) (ty : TypeId)
    {c : Ctx} {objs : Objs} {w : World} {o ver off len : Nat} {cap : Option Nat} {xs ys : List (List DC)} {x : CV} {u v : Value} (hr : RelObjs c objs w)
    (hob : objs[o]? = some (ver, .arr E.size xs)) (hol : off + len ≤ xs.length) (hy : contentX objs E.size x = some ys) (hyo : contentOK objs x) (hb : (len + ys.length) * E.bytes ≤ 2 ^ 40) (hb2 : len + ys.length ≤ 2 ^ 40)
    (hs : RelCV c objs w (.sl o ver E.size off len cap) u) (hx : RelCV c objs w x v) :
    ∃ r c' w', (Builtin.append_ #[t, t'] ty #[u, v]).run P w = .ok r w' ∧ Ext objs.length c objs w c' (objs.set o (ver + 1, .arr E.size ((xs.drop off).take len ++ ys))) w' ∧
      RelObjs c' (objs.set o (ver + 1, .arr E.size ((xs.drop off).take len ++ ys))) w' ∧ RelCV c' (objs.set o (ver + 1, .arr E.size ((xs.drop off).take len ++ ys))) w' (.sl o (ver + 1) E.size 0 (len + ys.length) none) r := by
  have hobj : objAt objs o ver = some (.arr E.size xs) := by simp [objAt, hob]
  have hlen : ((xs.drop off).take len).length = len := by simp; omega
  obtain ⟨b, xc, vs, rfl, hxc, hvrow, hvrun, hvcl⟩ := run_contentX (P := P) hr hpos hy hyo hx
  obtain ⟨a, sc, us, rfl, hsc, hurow, hurun, hucl⟩ := run_contentX (P := P) (x := .sl o ver E.size off len cap) (ys := (xs.drop off).take len) hr hpos (by simp [contentX, objRd_of hobj]) (by simp [contentOK, objRd_of hobj, hol]) hs
  rw [hlen] at hs hsc hurun ⊢
  have hlive : Live objs o ver := ⟨_, hob, by simp⟩
  obtain ⟨a', cp, heq, h2, h3, h4⟩ := hs.2.2 hlive
  simp only [Value.slice.injEq, true_and] at heq
  obtain ⟨rfl, rfl⟩ := heq
  have hrow := hurow.append hvrow
  have hrl := hrow.len
  rw [List.length_append, List.length_append, hlen] at hrl
  have hknown : Known (objs.set o (ver + 1, .arr E.size ((xs.drop off).take len ++ ys))) o (ver + 1) := ⟨_, _, getElem?_set_self' hob, Nat.le_refl _⟩
  rcases run_append (P := P) hu hu' hE ty w hurun hvrun hb hb2 with ⟨hfit, hrun⟩ | ⟨hno, cap', rest, hcap, hrest, hrun⟩
  · by_cases h0 : 0 < sc
    · -- there is room: the cells are written in place
      obtain ⟨bk, base, cs, T', g1, rfl, g3, g4⟩ := h4 h0
      rcases hr.ob o ver _ hob with ⟨q1, _⟩ | ⟨bk', base', cs', T'', q1, q2, q3, q4, q5⟩
      · rw [q1] at g1; cases g1
      rw [g1] at q1
      obtain ⟨rfl, rfl⟩ : bk = bk' ∧ base = base' := by simpa using q1
      rw [g3] at q2
      simp only [Option.some.injEq, Obj.cells.injEq, and_true] at q2
      obtain ⟨rfl, rfl⟩ := q2
      rw [Nat.add_mul] at g4
      have hm : (len + ys.length) * E.size ≤ sc * E.size := Nat.mul_le_mul_right _ hfit
      rw [Nat.add_mul] at hm
      have hvl := hvrow.len
      have hul := hurow.len
      rw [hlen] at hul
      have hfit2 : (base + off * E.size + len * E.size) + vs.length ≤ cs.size := by rw [hvl]; omega
      simp only [add_none, run_storeCells_put g3 vs hfit2 (hvrow.one hpos), Result.andThen_ok] at hrun
      have hrep := repl_ok (w' := w.setRow bk (putRow' cs (base + off * E.size + len * E.size) vs)) (bd' := .arr E.size ((xs.drop off).take len ++ ys)) (p := some (bk, base + off * E.size)) hr hob rfl
        (by rw [setRow_size]; exact Nat.le_refl _) rfl rfl rfl (fun k hk hne => setRow_other w bk k _ (fun e => hne base (e ▸ g1)))
        (fun k ks U hk => by
          by_cases e : k = bk
          · subst e
            rw [g3] at hk
            simp only [Option.some.injEq, Obj.cells.injEq, and_true] at hk
            obtain ⟨rfl, rfl⟩ := hk
            exact ⟨_, setRow_heap w k cs _ T' (0, 0) g3, size_putRow' hfit2⟩
          · exact ⟨ks, (setRow_other w bk k _ e).trans hk, rfl⟩)
        (fun k base' h => by simp only [Option.some.injEq, Prod.mk.injEq] at h; obtain ⟨rfl, rfl⟩ := h; exact .inl ⟨base, g1⟩)
        (fun hE' => relOB_row (b := bk) (base := base + off * E.size) (by simp [Ctx.at]) (setRow_heap w bk cs _ T' (0, 0) g3) (hrow.ext hE' hr) (by rw [size_putRow' hfit2, List.length_append, hlen, Nat.add_mul]; omega)
          (fun p z hz => by
            rw [get_putRow' hfit2]
            by_cases hp : p < us.length
            · rw [List.getElem?_append_left hp] at hz
              rw [if_neg (by omega)]
              obtain ⟨b', off', k1, k2⟩ := hucl p z hz
              simp only [Option.some.injEq, Addr.mk.injEq, and_true] at k1
              obtain ⟨rfl, rfl⟩ := k1
              rw [cell_of g3] at k2
              exact k2
            · rw [List.getElem?_append_right (by omega)] at hz
              have := (List.getElem?_eq_some_iff.1 hz).1
              rw [if_pos (by omega), ← hz]
              congr 1; omega))
      refine ⟨_, _, _, hrun, hrep.1, hrep.2, rfl, hknown, fun _ => ⟨_, sc, rfl, by omega, by simp [capOk], fun _ => ⟨bk, base + off * E.size, _, T', by simp [Ctx.at], by simp, setRow_heap w bk cs _ T' (0, 0) g3, ?_⟩⟩⟩
      rw [size_putRow' hfit2, Nat.add_mul]; omega
    · -- no room, and nothing to be put
      have hz : len = 0 ∧ ys.length = 0 ∧ sc = 0 := by omega
      obtain ⟨hz1, hz2, hz3⟩ := hz
      have hys : ys = [] := List.eq_nil_of_length_eq_zero hz2
      subst hz3 hys
      have hvs : vs = [] := by have := hvrow.len; exact List.eq_nil_of_length_eq_zero (by simpa using this)
      subst hvs
      have hun : (xs.drop off).take len ++ [] = [] := by rw [hz1]; simp
      have hrun' : (Builtin.append_ #[t, t'] ty #[.slice a len 0, .slice b ([] : List (List DC)).length xc]).run P w = .ok (.slice a (len + 0) 0) w := by
        rw [hrun]
        cases a <;> simp [storeCells]
      have hrep := repl_ok (w' := w) (bd' := .arr E.size ((xs.drop off).take len ++ [])) (p := none) hr hob rfl (Nat.le_refl _) rfl rfl rfl (fun _ _ _ => rfl) (fun _ cs _ h => ⟨cs, h, rfl⟩) (fun _ _ h => by cases h)
        (fun _ => .inl ⟨by simp [Ctx.at], hun⟩)
      exact ⟨_, _, _, hrun', hrep.1, hrep.2, rfl, hknown, fun _ => ⟨a, 0, rfl, by simp; omega, by simp [capOk], fun h => by omega⟩⟩
  · -- a new row
    have hsz0 : (us ++ vs ++ rest).toArray.size = cap' * E.size := by
      simp only [List.size_toArray, List.length_append, hrest] at hrl ⊢
      rw [hrl, ← Nat.add_mul]
      congr 1; omega
    have hrep := repl_ok (w' := w.drew.alloc (.cells (us ++ vs ++ rest).toArray te)) (bd' := .arr E.size ((xs.drop off).take len ++ ys)) (p := some (w.heap.size, 0)) hr hob rfl
      (by simp [heap_drew]) rfl rfl rfl (fun k hk _ => (heap_alloc_lt w.drew _ hk).trans (by rw [heap_drew]))
      (fun k ks U hk => ⟨ks, (heap_alloc_lt w.drew _ (Array.getElem?_eq_some_iff.1 hk).1).trans hk, rfl⟩)
      (fun k base' h => by simp only [Option.some.injEq, Prod.mk.injEq] at h; exact .inr ⟨by omega, by simp [heap_drew]; omega⟩)
      (fun hE' => relOB_row (b := w.heap.size) (base := 0) (by simp [Ctx.at]) (heap_alloc_new w.drew _) (hrow.ext hE' hr) (by rw [hsz0, List.length_append, hlen, Nat.zero_add]; exact Nat.mul_le_mul_right _ hcap)
        (fun p z hz => by
          have := (List.getElem?_eq_some_iff.1 hz).1
          rw [Nat.zero_add, List.getElem?_toArray, List.getElem?_append_left this, hz]))
    exact ⟨_, _, _, hrun, hrep.1, hrep.2, rfl, hknown, fun _ => ⟨_, cap', rfl, hcap, by simp [capOk], fun _ => ⟨w.heap.size, 0, _, te, by simp [Ctx.at], by simp, heap_alloc_new w.drew _, by rw [hsz0]; simp⟩⟩⟩

theorem spliceL_len {xs ys : List (List DC)} {p : Nat} (h : p + ys.length ≤ xs.length) : (spliceL xs ys p).length = xs.length := by
  unfold spliceL; simp; omega

/-- Rows written over others of an object of one's own. -/
theorem splice_ok {c : Ctx} {objs : Objs} {w : World} {o ver e p b base : Nat} {xs ys : List (List DC)} {us : List Value} {cs : Array Value} {T : TypeId} (hr : RelObjs c objs w) (hob : objs[o]? = some (ver, .arr e xs))
    (hφ : c.φ o = some (b, base)) (hb : w.heap[b]? = some (.cells cs T (0, 0))) (hrow : RepRow w c.R e ys us) (hfit : p + ys.length ≤ xs.length) :
    Ext objs.length c objs w c (objs.set o (ver, .arr e (spliceL xs ys p))) (w.setRow b (putRow' cs (base + p * e) us)) ∧ RelObjs c (objs.set o (ver, .arr e (spliceL xs ys p))) (w.setRow b (putRow' cs (base + p * e) us)) ∧
      (base + p * e) + us.length ≤ cs.size := by
  rcases hr.ob o ver _ hob with ⟨q1, _⟩ | ⟨b', base', cs', T', q1, q2, q3, q4, q5⟩
  · rw [q1] at hφ; cases hφ
  rw [hφ] at q1
  obtain ⟨rfl, rfl⟩ : b = b' ∧ base = base' := by simpa using q1
  rw [hb] at q2
  simp only [Option.some.injEq, Obj.cells.injEq, and_true] at q2
  obtain ⟨rfl, rfl⟩ := q2
  have hm : (p + ys.length) * e ≤ xs.length * e := Nat.mul_le_mul_right _ hfit
  rw [Nat.add_mul] at hm
  have hul := hrow.len
  have hsz : (base + p * e) + us.length ≤ cs.size := by omega
  have hxl : (xs.take p).length = p := by simp; omega
  have hW := write_cells (bd' := .arr e (spliceL xs ys p)) hr hob rfl rfl (c.has_of hφ) hb (size_putRow' hsz) fun hE => by
    refine .inr ⟨b, base, _, T, hφ, setRow_heap w b cs _ T (0, 0) hb, by rw [size_putRow' hsz, spliceL_len hfit]; exact q3, fun x hx => ?_, fun i j d hd => ?_⟩
    · unfold spliceL at hx
      rcases List.mem_append.1 hx with hx | hx
      · rcases List.mem_append.1 hx with hx | hx
        · exact q4 x (List.mem_of_mem_take hx)
        · exact hrow.lens x hx
      · exact q4 x (List.mem_of_mem_drop hx)
    · have hold : ∀ {i j : Nat} {d : DC}, (xs[i]?.bind (·[j]?)) = some d → j < e := by
        intro i j d hd
        exact (row_lt q4 hd).2.1
      rw [get_putRow' hsz]
      unfold spliceL at hd
      by_cases h1 : i < p
      · rw [List.append_assoc, List.getElem?_append_left (by omega), List.getElem?_take, if_pos h1] at hd
        have hj := hold hd
        have : (i + 1) * e ≤ p * e := Nat.mul_le_mul_right _ h1
        rw [Nat.succ_mul] at this
        obtain ⟨u, m1, m2⟩ := q5 i j d hd
        exact ⟨u, by rw [if_neg (by omega)]; exact m1, hE.rep hr m2⟩
      · by_cases h2 : i < p + ys.length
        · rw [List.append_assoc, List.getElem?_append_right (by omega), hxl, List.getElem?_append_left (by omega)] at hd
          have hj := (row_lt hrow.lens hd).2
          obtain ⟨u, m1, m2⟩ := hrow.rep (i - p) j d hd
          have e1 : (i - p) * e + p * e = i * e := by rw [← Nat.add_mul]; congr 1; omega
          refine ⟨u, ?_, hE.rep hr m2⟩
          rw [if_pos (by omega), ← m1]
          congr 1; omega
        · rw [List.getElem?_append_right (by simp; omega)] at hd
          have hl2 : (xs.take p ++ ys).length = p + ys.length := by rw [List.length_append, hxl]
          rw [hl2, List.getElem?_drop, show p + ys.length + (i - (p + ys.length)) = i by omega] at hd
          have : (p + ys.length) * e ≤ i * e := Nat.mul_le_mul_right _ (by omega)
          rw [Nat.add_mul] at this
          obtain ⟨u, m1, m2⟩ := q5 i j d hd
          exact ⟨u, by rw [if_neg (by omega)]; exact m1, hE.rep hr m2⟩
  exact ⟨hW.1, hW.2, hsz⟩

/-- A copy into a row of the call's own. -/
theorem run_copy_sl {P : Program} {t t' te : TypeId} {E : TyI} (hu : P.underlying t = some (.slice te)) (hE : TyFacts P te E) (hpos : 0 < E.size) (ty : TypeId)
    {c : Ctx} {objs : Objs} {w : World} {o ver off len : Nat} {cap : Option Nat} {xs ys : List (List DC)} {x : CV} {u v : Value} (hr : RelObjs c objs w)
    (hob : objs[o]? = some (ver, .arr E.size xs)) (hol : off + len ≤ xs.length) (hy : contentX objs E.size x = some ys) (hyo : contentOK objs x) (hle : ys.length ≤ len)
    (hs : RelCV c objs w (.sl o ver E.size off len cap) u) (hx : RelCV c objs w x v) :
    ∃ w', (Builtin.copy_ #[t, t'] ty #[u, v]).run P w = .ok (.int .i64 ys.length) w' ∧ Ext objs.length c objs w c (objs.set o (ver, .arr E.size (spliceL xs ys off))) w' ∧
      RelObjs c (objs.set o (ver, .arr E.size (spliceL xs ys off))) w' := by
  obtain ⟨a, xc, vs, rfl, hxc, hvrow, hvrun, hvcl⟩ := run_contentX (P := P) hr hpos hy hyo hx
  have hlive : Live objs o ver := ⟨_, hob, by simp⟩
  obtain ⟨a', cp, rfl, h2, h3, h4⟩ := hs.2.2 hlive
  have hmin : Nat.min ys.length len = ys.length := Nat.min_eq_left hle
  have hone := hvrow.one hpos
  by_cases h0 : 0 < cp
  · obtain ⟨bk, base, cs, T', g1, rfl, g3, g4⟩ := h4 h0
    obtain ⟨k1, k2, k3⟩ := splice_ok (p := off) hr hob g1 g3 hvrow (by omega)
    refine ⟨_, ?_, k1, k2⟩
    have hst := run_storeCells_put (P := P) g3 vs k3 hone
    simp [Builtin.copy_, run_underlying hu, Builtin.lenOf, hmin, hE.run_sizeOf, hvrun w rfl, hst, goInt]
  · have hz : ys.length = 0 := by omega
    have hys : ys = [] := List.eq_nil_of_length_eq_zero hz
    subst hys
    have hvs : vs = [] := by have := hvrow.len; exact List.eq_nil_of_length_eq_zero (by simpa using this)
    subst hvs
    have e1 : spliceL xs [] off = xs := by unfold spliceL; simp
    rw [e1]
    have e2 : objs.set o (ver, .arr E.size xs) = objs := by
      apply List.ext_getElem?
      intro i
      by_cases e : o = i
      · subst e; rw [List.getElem?_set_self (List.getElem?_eq_some_iff.1 hob).1, hob]
      · rw [List.getElem?_set_ne e]
    rw [e2]
    refine ⟨w, ?_, Ext.refl _ _ _ _, hr⟩
    have hr0 := hvrun w rfl
    simp only [List.length_nil] at hr0
    cases a' with
    | none => simp [Builtin.copy_, run_underlying hu, Builtin.lenOf, hE.run_sizeOf, hr0, goInt]
    | some a' => simp [Builtin.copy_, run_underlying hu, Builtin.lenOf, hE.run_sizeOf, hr0, storeCells, goInt]

/-- Append of a part of a row to a part of the same row, in place. -/
theorem run_append_in {P : Program} {t t' te : TypeId} {E : TyI} (hu : P.underlying t = some (.slice te)) (hu' : (∃ e', P.underlying t' = some (.slice e'))) (hE : TyFacts P te E) (hpos : 0 < E.size) (ty : TypeId)
    {c : Ctx} {objs : Objs} {w : World} {o ver off len cap : Nat} {xs ys : List (List DC)} {x : CV} {u v : Value} (hr : RelObjs c objs w)
    (hob : objs[o]? = some (ver, .arr E.size xs)) (hol : off + len + ys.length ≤ xs.length) (hcap : len + ys.length ≤ cap) (hy : contentX objs E.size x = some ys) (hyo : contentOK objs x) (hb : (len + ys.length) * E.bytes ≤ 2 ^ 40) (hb2 : len + ys.length ≤ 2 ^ 40)
    (hs : RelCV c objs w (.sl o ver E.size off len (some cap)) u) (hx : RelCV c objs w x v) :
    ∃ r w', (Builtin.append_ #[t, t'] ty #[u, v]).run P w = .ok r w' ∧ Ext objs.length c objs w c (objs.set o (ver, .arr E.size (spliceL xs ys (off + len)))) w' ∧
      RelObjs c (objs.set o (ver, .arr E.size (spliceL xs ys (off + len)))) w' ∧ RelCV c (objs.set o (ver, .arr E.size (spliceL xs ys (off + len)))) w' (.sl o ver E.size off (len + ys.length) (some cap)) r := by
  have hobj : objAt objs o ver = some (.arr E.size xs) := by simp [objAt, hob]
  have hlen : ((xs.drop off).take len).length = len := by simp; omega
  obtain ⟨b, xc, vs, rfl, hxc, hvrow, hvrun, hvcl⟩ := run_contentX (P := P) hr hpos hy hyo hx
  obtain ⟨a, sc, us, rfl, hsc, hurow, hurun, hucl⟩ := run_contentX (P := P) (x := .sl o ver E.size off len (some cap)) (ys := (xs.drop off).take len) hr hpos (by simp [contentX, objRd_of hobj]) (by simp [contentOK, objRd_of hobj]; omega) hs
  rw [hlen] at hs hsc hurun ⊢
  have hlive : Live objs o ver := ⟨_, hob, by simp⟩
  obtain ⟨a', cp, heq, h2, h3, h4⟩ := hs.2.2 hlive
  simp only [Value.slice.injEq, true_and] at heq
  obtain ⟨rfl, rfl⟩ := heq
  obtain rfl := h3 cap rfl
  have hknown : Known (objs.set o (ver, .arr E.size (spliceL xs ys (off + len)))) o ver := ⟨_, _, getElem?_set_self' hob, Nat.le_refl _⟩
  rcases run_append (P := P) hu hu' hE ty w hurun hvrun hb hb2 with ⟨hfit, hrun⟩ | ⟨hno, _⟩
  · by_cases h0 : 0 < sc
    · obtain ⟨bk, base, cs, T', g1, rfl, g3, g4⟩ := h4 h0
      obtain ⟨k1, k2, k3⟩ := splice_ok (p := off + len) hr hob g1 g3 hvrow hol
      have e1 : base + off * E.size + len * E.size = base + (off + len) * E.size := by rw [Nat.add_mul]; omega
      simp only [add_none, e1, run_storeCells_put g3 vs k3 (hvrow.one hpos), Result.andThen_ok] at hrun
      refine ⟨_, _, hrun, k1, k2, rfl, hknown, fun _ => ⟨_, sc, rfl, hfit, by simp [capOk], fun _ => ⟨bk, base, _, T', g1, rfl, setRow_heap w bk cs _ T' (0, 0) g3, by rw [size_putRow' k3]; exact g4⟩⟩⟩
    · have hz : len = 0 ∧ ys.length = 0 := by omega
      obtain ⟨rfl, hz2⟩ := hz
      have hys : ys = [] := List.eq_nil_of_length_eq_zero hz2
      subst hys
      have hvs : vs = [] := by have := hvrow.len; exact List.eq_nil_of_length_eq_zero (by simpa using this)
      subst hvs
      have e1 : spliceL xs [] (off + 0) = xs := by unfold spliceL; simp
      rw [e1] at hknown ⊢
      have e2 : objs.set o (ver, .arr E.size xs) = objs := by
        apply List.ext_getElem?
        intro i
        by_cases e : o = i
        · subst e; rw [List.getElem?_set_self (List.getElem?_eq_some_iff.1 hob).1, hob]
        · rw [List.getElem?_set_ne e]
      rw [e2] at hknown ⊢
      refine ⟨.slice a 0 sc, w, ?_, Ext.refl _ _ _ _, hr, rfl, hknown, fun _ => ⟨a, sc, rfl, by omega, by simp [capOk], fun h => by omega⟩⟩
      rw [hrun]
      cases a <;> simp [storeCells]
  · omega

end Go.Proofs.Ytbmaofepmheeeaa

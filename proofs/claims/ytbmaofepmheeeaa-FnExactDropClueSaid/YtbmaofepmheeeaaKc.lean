/- The executor is sound: operations. -/
import Derived.Test.YtbmaofepmheeeaaKb
import Derived.Laws.NewBlocks
import Derived.Laws.StructEq
namespace Go.Proofs.Ytbmaofepmheeeaa
open Go Go.RowKit

theorem Rep.v_inv {w : World} {R : Nat → Prop} {x v : Value} (h : Rep w R (.v x) v) : v = x := by cases h; rfl

theorem rel_constCV (c : Ctx) (objs : Objs) (w : World) (v : Value) (h1 : v.oneCell' = true) : RelCV c objs w (constCV v) v := by
  unfold constCV
  split
  · exact rfl
  · exact Rep.v _ h1

theorem rel_constSV (c : Ctx) (objs : Objs) (w : World) (v : Value) : RelSV c objs w (constSV v) v := by
  unfold constSV
  split
  · rename_i cs
    split
    · rename_i hall
      refine ⟨cs, rfl, by simp, fun i x hi => ?_⟩
      simp only [List.getElem?_map, Option.map_eq_some_iff] at hi
      obtain ⟨u, h1, rfl⟩ := hi
      have h2 : cs[i]? = some u := by simpa using h1
      exact ⟨u, h2, rel_constCV _ _ _ _ (List.all_eq_true.1 hall u (Array.mem_toList_iff.2 (Array.mem_of_getElem? h2)))⟩
    · exact trivial
  · exact trivial
  · refine rel_constCV _ _ _ _ ?_
    unfold Value.oneCell'
    split <;> simp_all

theorem Rel.eval {c : Ctx} {st : St} {a : Act} {w : World} (hr : Rel c st a w) (x : Operand) : RelSV c st.objs w (st.eval x) (a.eval x) := by
  cases x with
  | tmp t =>
    simp only [St.eval]
    split
    · rename_i h
      obtain ⟨v, h1, h2⟩ := hr.env t h
      simp only [Act.eval, Array.getD_eq_getD_getElem?, h1, Option.getD_some]
      exact h2
    · exact trivial
  | const v => exact rel_constSV ..
  | global g => exact trivial
  | func f => exact ⟨#[], rfl, rfl, fun i o ver off h => by simp at h⟩

theorem wp_value {P : Program} {o : Oper} {a : Act} {next : Act → World → Prop} {Q : Exit → Act → World → Prop} {w w' : World} {v : Value}
    (h : (execOp a.eval o).run P w = .ok (.value v) w') (hn : next (a.put o.dst v) w') : o.wp P a w next Q := by
  unfold Oper.wp
  rw [h]
  exact hn

theorem wp_skipped {P : Program} {o : Oper} {a : Act} {next : Act → World → Prop} {Q : Exit → Act → World → Prop} {w w' : World}
    (h : (execOp a.eval o).run P w = .ok .skip w') (hn : next (a.put o.dst undef) w') : o.wp P a w next Q := by
  unfold Oper.wp
  rw [h]
  exact hn

theorem relV {c : Ctx} {objs : Objs} {w : World} (x : Value) (h1 : x.oneCell' = true) : RelCV c objs w (.d (.v x)) x := Rep.v x h1

theorem SameOld.refl (w : World) : SameOld w w := ⟨Nat.le_refl _, fun _ _ => rfl⟩

theorem SameOld.trans {a b c : World} (h : SameOld a b) (g : SameOld b c) : SameOld a c :=
  ⟨Nat.le_trans h.size g.size, fun k hk => (g.old k (Nat.lt_of_lt_of_le hk h.size)).trans (h.old k hk)⟩

theorem SameOld.cell {w w' : World} (h : SameOld w w') {p : Addr} {u : Value} (hc : w.cell? p = some u) : w'.cell? p = some u := by
  unfold World.cell? at hc ⊢
  split at hc
  · rename_i c t b hb
    rw [h.old _ (Array.getElem?_eq_some_iff.1 hb).1, hb]
    exact hc
  · cases hc

/-- What an operation does to values alone: it comes to a value that K's argument stands for. -/
theorem run_binX {P : Program} {c : Ctx} {objs : Objs} {w : World} {isB : Bool} {op : BinOp} {t : TypeId} {xo yo : Operand} {x y : CV} {u v : Value} {K : CV → Prop}
    (hB : isB = true → P.underlying t = some .bool) (h : binX isB op x y K) (hx : RelCV c objs w x u) (hy : RelCV c objs w y v) :
    ∃ z r, (∀ w', (do eqGuard op t xo yo u v; binOp op t u v : Sem Value).run P w' = .ok r w') ∧ RelCV c objs w z r ∧ K z := by
  unfold binX at h
  split at h
  · rename_i a b
    obtain rfl := Rep.v_inv hx
    obtain rfl := Rep.v_inv hy
    split at h
    · exact h.elim
    · have ht := hB rfl
      have he : ∀ w, (Op.equal t (.bool a) (.bool b)).run P w = .ok (a == b) w := fun w => run_equalIn_bool' w 9999 t a b ht
      split at h
      · exact ⟨_, _, fun _ => by simp [eqGuard, binOp, he], relV _ rfl, h⟩
      · exact ⟨_, _, fun _ => by simp [eqGuard, binOp, he], relV _ rfl, h⟩
      · exact h.elim
  · rename_i k a k' b
    obtain rfl := Rep.v_inv hx
    obtain rfl := Rep.v_inv hy
    split at h
    · obtain ⟨h0, h⟩ := h
      exact ⟨_, _, fun _ => by simp [eqGuard, binOp, Op.shift, show ¬ b < 0 by omega], relV _ rfl, h⟩
    · obtain ⟨h0, h⟩ := h
      exact ⟨_, _, fun _ => by simp [eqGuard, binOp, Op.shift, show ¬ b < 0 by omega], relV _ rfl, h⟩
    · replace h := chkP_iff.1 h; obtain ⟨rfl, h⟩ := h
      exact ⟨_, _, fun _ => by simp [eqGuard, binOp, Op.intBits], relV _ rfl, h⟩
    · replace h := chkP_iff.1 h; obtain ⟨rfl, h⟩ := h
      unfold binInt at h
      split at h
      · exact ⟨_, _, fun _ => by simp [eqGuard, binOp, Op.intArith], relV _ rfl, h⟩
      · exact ⟨_, _, fun _ => by simp [eqGuard, binOp, Op.intArith], relV _ rfl, h⟩
      · exact ⟨_, _, fun _ => by simp [eqGuard, binOp, Op.intArith], relV _ rfl, h⟩
      · obtain ⟨h0, h⟩ := h
        exact ⟨_, _, fun _ => by simp [eqGuard, binOp, Op.intDiv, h0], relV _ rfl, h⟩
      · obtain ⟨h0, h⟩ := h
        exact ⟨_, _, fun _ => by simp [eqGuard, binOp, Op.intDiv, h0], relV _ rfl, h⟩
      · exact ⟨_, _, fun _ => by simp [eqGuard, binOp, Op.intCmp], relV _ rfl, h⟩
      · exact ⟨_, _, fun _ => by simp [eqGuard, binOp, Op.intCmp], relV _ rfl, h⟩
      · exact ⟨_, _, fun _ => by simp [eqGuard, binOp, Op.intCmp], relV _ rfl, h⟩
      · exact ⟨_, _, fun _ => by simp [eqGuard, binOp, Op.intCmp], relV _ rfl, h⟩
      · exact ⟨_, _, fun _ => by simp [eqGuard, binOp, Op.intCmp], relV _ rfl, h⟩
      · exact ⟨_, _, fun _ => by simp [eqGuard, binOp, Op.intCmp], relV _ rfl, h⟩
      · exact h.elim
  · rename_i a b
    obtain rfl := Rep.v_inv hx
    obtain rfl := Rep.v_inv hy
    split at h
    · obtain ⟨h0, h⟩ := h
      have h1 : ¬ ((a.size : Int) + (b.size : Int) > IntKind.i64.max) := by
        have : IntKind.i64.max = 9223372036854775807 := by decide
        omega
      exact ⟨_, _, fun _ => by simp [eqGuard, binOp, Op.stringOp]; omega, relV _ rfl, h⟩
    · exact ⟨_, _, fun _ => by simp [eqGuard, binOp, Op.stringOp], relV _ rfl, h⟩
    · exact ⟨_, _, fun _ => by simp [eqGuard, binOp, Op.stringOp], relV _ rfl, h⟩
    · exact h.elim
  · exact h.elim

theorem run_unX {P : Program} {c : Ctx} {objs : Objs} {w : World} {op : UnOp} {x : CV} {u : Value} {K : CV → Prop}
    (h : unX op x K) (hx : RelCV c objs w x u) : ∃ z r, (∀ w', (Op.unary op u).run P w' = .ok r w') ∧ RelCV c objs w z r ∧ K z := by
  unfold unX at h
  split at h
  · obtain rfl := Rep.v_inv hx
    exact ⟨_, _, fun _ => by simp [Op.unary], relV _ rfl, h⟩
  · obtain rfl := Rep.v_inv hx
    exact ⟨_, _, fun _ => by simp [Op.unary, Op.intArith], relV _ rfl, h⟩
  · exact h.elim

end Go.Proofs.Ytbmaofepmheeeaa

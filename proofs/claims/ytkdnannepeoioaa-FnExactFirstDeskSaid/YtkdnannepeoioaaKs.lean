/- A callee that writes a row of its caller's own: shown where there is nothing else, used where there is more. -/
import Derived.Test.YtkdnannepeoioaaKr
namespace Go.Proofs.Ytkdnannepeoioaa
open Go Go.RowKit

theorem mark_frame {P : Program} {f : FuncId} {e len : Nat} {xs xs' : List (List DC)} {k k' : Int} {objs : Objs} {o ver : Nat} {cap : Option Nat} {K : SV → Objs → Prop}
    (hmin : ∀ cap, CallX P f [.c (.sl 0 0 e 0 len cap), .c (vI k)] [(0, .arr e xs)] (fun sv objs' => sv = .one (.c (vI k')) ∧ ∃ gs, objs' = (0, .arr e xs') :: gs))
    (hflat : ∀ y ∈ xs', ∀ d ∈ y, flatDC d) (hob : objAt objs o ver = some (.arr e xs)) (hK : K (.one (.c (vI k'))) (objs.set o (ver, .arr e xs'))) :
    CallX P f [.c (.sl o ver e 0 len cap), .c (vI k)] objs K := by
  have ho := objAt_some hob
  refine ⟨(hmin cap).enter, fun c w vals hr hl hv => ?_⟩
  have hown : ∀ {b base : Nat}, c.φ o = some (b, base) → Own c objs b := fun {b base} hp => ⟨o, ver, _, base, ho, by simp, hp⟩
  let c0 : Ctx := ⟨fun i => if i = 0 then c.φ o else none, fun b => b < w.heap.size ∧ ∀ base, c.φ o ≠ some (b, base)⟩
  have hφ0 : c0.φ 0 = c.φ o := rfl
  have hRR : ∀ b, c.R b → c0.R b := fun b hb => ⟨hr.rsize b hb, fun base hp => (hr.osize b (hown hp)).2 hb⟩
  have h0 : ∀ {o' ver' : Nat} {bd : OB}, ([(0, .arr e xs)] : Objs)[o']? = some (ver', bd) → o' = 0 ∧ ver' = 0 ∧ bd = .arr e xs := by
    intro o' ver' bd h
    cases o' with
    | zero => simp at h; exact ⟨rfl, h.1.symm, h.2.symm⟩
    | succ n => simp at h
  have hr0 : RelObjs c0 [(0, .arr e xs)] w := by
    refine ⟨fun o' ver' bd h => ?_, fun o1 o2 v1 v2 b1 b2 b base base' h1 _ h2 _ _ _ => ?_, fun b hb => hb.1, fun b hb => ?_⟩
    · obtain ⟨rfl, rfl, rfl⟩ := h0 h
      rcases hr.ob o ver _ ho with ⟨h1, h2⟩ | ⟨b, base, cs, T, h1, h2, h3, h4, h5⟩
      · exact .inl ⟨h1, h2⟩
      · refine .inr ⟨b, base, cs, T, h1, h2, h3, h4, fun i j d hd => ?_⟩
        obtain ⟨u, k1, k2⟩ := h5 i j d hd
        exact ⟨u, k1, k2.mono hRR (fun _ _ => rfl)⟩
    · rw [(h0 h1).1, (h0 h2).1]
    · obtain ⟨o', ver', bd, base, h1, _, h3⟩ := hb
      obtain ⟨rfl, rfl, rfl⟩ := h0 h1
      exact ⟨(hr.osize b (hown h3)).1, fun h => h.2 base h3⟩
  refine ((hmin cap).calls c0 w vals hr0 (by simpa using hl) ?_).mono ?_
  · intro i x hx
    cases i with
    | zero =>
      obtain ⟨u, k1, k2⟩ := hv 0 _ rfl
      simp only [List.getElem?_cons_zero, Option.some.injEq] at hx
      subst hx
      refine ⟨u, k1, k2.1, ⟨0, _, rfl, Nat.le_refl _⟩, fun _ => ?_⟩
      exact k2.2.2 (live_of_objAt hob (by simp))
    | succ i =>
      cases i with
      | zero =>
        obtain ⟨u, k1, k2⟩ := hv 1 _ rfl
        simp only [List.getElem?_cons_succ, List.getElem?_cons_zero, Option.some.injEq] at hx
        subst hx
        obtain rfl := Rep.v_inv k2
        exact ⟨_, k1, relV (objs := [(0, .arr e xs)]) _ rfl⟩
      | succ i => simp at hx
  rintro e' w' ⟨v, c', objs', sv, rfl, hE, hr', hsv, rfl, gs, rfl⟩
  obtain rfl := Rep.v_inv hsv
  obtain ⟨cur', bd', g1, g2, g3⟩ := hE.refs 0 0 (.arr e xs) (by simp) rfl
  obtain ⟨rfl, rfl⟩ : cur' = 0 ∧ bd' = .arr e xs' := by simp at g1; exact ⟨g1.1.symm, g1.2.symm⟩
  have hφ : c'.φ 0 = c.φ o := (g3 rfl (by simp)).2
  have hother : ∀ b, b < w.heap.size → (∀ base, c.φ o ≠ some (b, base)) → w'.heap[b]? = w.heap[b]? := by
    intro b hb hno
    refine hE.keep b hb ?_
    rintro ⟨o', ver', bd, base, h1, _, h3⟩
    obtain ⟨rfl, rfl, rfl⟩ := h0 h1
    exact hno base h3
  have hset : ∀ {o' ver' : Nat} {bd : OB}, (objs.set o (ver, .arr e xs'))[o']? = some (ver', bd) → (o' = o ∧ ver' = ver ∧ bd = .arr e xs') ∨ (o' ≠ o ∧ objs[o']? = some (ver', bd)) := by
    intro o' ver' bd h
    rcases set_cases ho h with ⟨rfl, h4⟩ | h4
    · simp only [Prod.mk.injEq] at h4; exact .inl ⟨rfl, h4⟩
    · exact .inr h4
  have hownset : ∀ b, Own c (objs.set o (ver, .arr e xs')) b → Own c objs b := by
    rintro b ⟨o', ver', bd, base, h1, h2, h3⟩
    rcases hset h1 with ⟨rfl, rfl, rfl⟩ | ⟨_, h4⟩
    · exact hown h3
    · exact ⟨o', ver', bd, base, h4, h2, h3⟩
  have hE' : Ext objs.length c objs w c (objs.set o (ver, .arr e xs')) w' := by
    refine ⟨hE.size, hE.tape, hE.os, hE.output, fun b hb hno => hother b hb (fun base hp => hno (hown hp)), hE.shape, fun b hb => .inl (hownset b hb), fun _ h => h, fun _ h => .inl h, fun o' cur bd _ h => ?_⟩
    by_cases e1 : o' = o
    · subst e1
      rw [ho] at h
      simp only [Option.some.injEq, Prod.mk.injEq] at h
      obtain ⟨rfl, rfl⟩ := h
      exact ⟨ver, .arr e xs', getElem?_set_self' ho, Nat.le_refl _, fun _ _ => ⟨by simp, rfl⟩⟩
    · exact ⟨cur, bd, by rw [List.getElem?_set_ne (Ne.symm e1)]; exact h, Nat.le_refl _, fun _ h => ⟨h, rfl⟩⟩
  have live : ∀ {o' ver' : Nat} {bd : OB}, (objs.set o (ver, .arr e xs'))[o']? = some (ver', bd) → bd ≠ .dead → ∃ v x, objs[o']? = some (v, x) ∧ x ≠ .dead := by
    intro o' ver' bd h hd
    rcases hset h with ⟨rfl, _, _⟩ | ⟨_, h4⟩
    · exact ⟨_, _, ho, by simp⟩
    · exact ⟨_, _, h4, hd⟩
  have hr'' : RelObjs c (objs.set o (ver, .arr e xs')) w' := by
    refine ⟨fun o' ver' bd h => ?_, fun o1 o2 v1 v2 b1 b2 b base base' h1 d1 h2 d2 p1 p2 => ?_, fun b hb => Nat.lt_of_lt_of_le (hr.rsize b hb) hE.size, fun b hb => ⟨Nat.lt_of_lt_of_le (hr.osize b (hownset b hb)).1 hE.size, (hr.osize b (hownset b hb)).2⟩⟩
    · rcases hset h with ⟨rfl, rfl, rfl⟩ | ⟨hne, h4⟩
      · rcases hr'.ob 0 0 (.arr e xs') rfl with ⟨h1, h2⟩ | ⟨b, base, cs, T, h1, h2, h3, h4, h5⟩
        · exact .inl ⟨by rw [← hφ]; exact h1, h2⟩
        · refine .inr ⟨b, base, cs, T, by rw [← hφ]; exact h1, h2, h3, h4, fun i j d hd => ?_⟩
          obtain ⟨u, k1, k2⟩ := h5 i j d hd
          obtain ⟨y, hy, hj⟩ := Option.bind_eq_some_iff.1 hd
          exact ⟨u, k1, k2.flat (hflat y (List.mem_of_getElem? hy) d (List.mem_of_getElem? hj))⟩
      · by_cases hdead : bd = .dead
        · subst hdead; exact trivial
        · refine RelOB.keep hE' (Nat.le_refl _) hr rfl (fun b base hp => hother b (hr.osize b ⟨o', ver', bd, base, h4, hdead, hp⟩).1 (fun base' hp' => ?_)) (hr.ob o' ver' bd h4)
          exact hne (hr.inj o' o ver' ver bd _ b base base' h4 hdead ho (by simp) hp hp')
    · obtain ⟨w1, x1, q1, r1⟩ := live h1 d1
      obtain ⟨w2, x2, q2, r2⟩ := live h2 d2
      exact hr.inj o1 o2 w1 w2 x1 x2 b base base' q1 r1 q2 r2 p1 p2
  exact ⟨_, c, _, .one (.c (vI k')), rfl, hE', hr'', relV (objs := objs.set o (ver, .arr e xs')) _ rfl, hK⟩

end Go.Proofs.Ytkdnannepeoioaa

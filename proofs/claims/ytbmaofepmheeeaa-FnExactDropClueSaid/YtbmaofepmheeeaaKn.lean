/- Contracts of functions on data: what is handed in is only read, what is handed back lies in memory of its own. -/
import Derived.Test.YtbmaofepmheeeaaKm
namespace Go.Proofs.Ytbmaofepmheeeaa
open Go Go.RowKit

inductive DR where
  | one (v : DV)
  | tup (vs : List DV)

def DV.toV1 : DV → V1
  | .c x => .c (cvOf x)
  | .agg xs => .agg (xs.map cvOf)

/-- Cells whose rows lie in blocks bs of their own, from block B on. -/
inductive FreshCells (B : Nat) (w : World) : List DC → List Value → List Nat → Prop
  | nil : FreshCells B w [] [] []
  | v (x : Value) (h1 : x.oneCell' = true) {ds us bs} : FreshCells B w ds us bs → FreshCells B w (.v x :: ds) (x :: us) bs
  | none (e : Nat) (a : Option Addr) {ds us bs} : FreshCells B w ds us bs → FreshCells B w (.list e [] :: ds) (.slice a 0 0 :: us) bs
  | row (e : Nat) (xs : List (List DC)) (b off cap : Nat) (cs : Array Value) (T : TypeId) {ds us bs} (hb : b ∉ bs) (hB : B ≤ b) (hh : w.heap[b]? = some (.cells cs T (0, 0))) (hc : xs.length ≤ cap) (hs : off + cap * e ≤ cs.size)
      (hl : ∀ x ∈ xs, x.length = e) (hr : ∀ (i j : Nat) d, (xs[i]?.bind (·[j]?)) = some d → ∃ u, cs[off + (i * e + j)]? = some u ∧ Rep w (fun _ => False) d u) :
      FreshCells B w ds us bs → FreshCells B w (.list e xs :: ds) (.slice (some ⟨b, off, Option.none⟩) xs.length cap :: us) (b :: bs)

inductive FreshVs (B : Nat) (w : World) : List DV → List Value → List Nat → Prop
  | nil : FreshVs B w [] [] []
  | c {d u bs ds us cs} : FreshCells B w [d] [u] bs → FreshVs B w ds us cs → (∀ b ∈ bs, b ∉ cs) → FreshVs B w (.c d :: ds) (u :: us) (bs ++ cs)
  | agg {xs} {vs : Array Value} {bs ds us cs} : FreshCells B w xs vs.toList bs → FreshVs B w ds us cs → (∀ b ∈ bs, b ∉ cs) → FreshVs B w (.agg xs :: ds) (.agg vs :: us) (bs ++ cs)

def FreshDR (B : Nat) (w : World) : DR → Value → Prop
  | .one d, v => ∃ bs, FreshVs B w [d] [v] bs
  | .tup ds, v => ∃ vs bs, v = .tuple vs ∧ FreshVs B w ds vs.toList bs

/-- Function f, at these data, hands back this datum, whatever memory they lie in; nothing that was there is written. -/
def Fn (P : Program) (f : FuncId) (args : List DV) (res : DR) : Prop :=
  enterable P f = true ∧ ∀ (w : World) (vals : Array Value), vals.size = args.length → (∀ (i : Nat) x, args[i]? = some x → ∃ u, vals[i]? = some u ∧ RepDV w (· < w.heap.size) x u) →
    Calls P f vals w fun e w' => ∃ v, e = .returned v ∧ Below w.heap.size w w' ∧ FreshDR w.heap.size w' res v

/-! What a final state says of the results. -/

def flatDC : DC → Prop
  | .v _ => True
  | .list _ _ => False

def resCell (objs : Objs) : CV → DC → Prop
  | .d (.v x), .v y => x = y
  | .nilsl, .list _ xs => xs = []
  | .esl, .list _ xs => xs = []
  | .sl o ver e off len _, .list e' xs =>
    match objAt objs o ver with
    | some (.arr e'' ys) => e = e' ∧ e'' = e ∧ off + len ≤ ys.length ∧ xs = (ys.drop off).take len ∧ ∀ y ∈ xs, ∀ d ∈ y, flatDC d
    | _ => False
  | _, _ => False

def resCells (objs : Objs) : List CV → List DC → Prop
  | [], [] => True
  | x :: r, d :: s => resCell objs x d ∧ resCells objs r s
  | _, _ => False

def resVs (objs : Objs) : List V1 → List DV → Prop
  | [], [] => True
  | .c x :: r, .c d :: s => resCell objs x d ∧ resVs objs r s
  | .agg xs :: r, .agg ds :: s => resCells objs xs ds ∧ resVs objs r s
  | _, _ => False

def refCV : CV → List Nat
  | .sl o _ _ _ _ _ => [o]
  | _ => []

def refCs : List CV → List Nat
  | [] => []
  | x :: r => refCV x ++ refCs r

def refVs : List V1 → List Nat
  | [] => []
  | .c x :: r => refCV x ++ refVs r
  | .agg xs :: r => refCs xs ++ refVs r

structure ResOK (objs : Objs) (vs : List V1) (ds : List DV) : Prop where
  res : resVs objs vs ds
  nodup : (refVs vs).Nodup

theorem resOK_iff {objs : Objs} {vs : List V1} {ds : List DV} : ResOK objs vs ds ↔ resVs objs vs ds ∧ (refVs vs).Nodup := ⟨fun h => ⟨h.1, h.2⟩, fun h => ⟨h.1, h.2⟩⟩

def resOK (objs : Objs) : SV → DR → Prop
  | .one v, .one d => ResOK objs [v] [d]
  | .tup vs, .tup ds => ResOK objs vs ds
  | _, _ => False

theorem Rep.flat {w : World} {R R' : Nat → Prop} {d : DC} {v : Value} (h : Rep w R d v) (hd : flatDC d) : Rep w R' d v := by
  cases h with
  | v _ h1 => exact .v _ h1
  | list => exact hd.elim

/-- Where the blocks of results are: at places of the objects named. -/
def InRefs (c : Ctx) (objs : Objs) (bs : List Nat) (os : List Nat) : Prop :=
  ∀ b ∈ bs, ∃ o ∈ os, ∃ ver bd base, objs[o]? = some (ver, bd) ∧ bd.mine = true ∧ c.φ o = some (b, base)

theorem InRefs.disj {c : Ctx} {objs : Objs} {w : World} (hr : RelObjs c objs w) {bs cs os ps : List Nat} (h : InRefs c objs bs os) (g : InRefs c objs cs ps) (hd : ∀ o ∈ os, o ∉ ps) : ∀ b ∈ bs, b ∉ cs := by
  intro b hb hc
  obtain ⟨o, ho, v, x, base, h1, h2, h3⟩ := h b hb
  obtain ⟨p, hp, v', x', base', g1, g2, g3⟩ := g b hc
  have := hr.inj o p v v' x x' b h1 h2 g1 (OB.mine_live g2) (.inl ⟨_, h3⟩) (.inl ⟨_, g3⟩)
  subst this
  exact hd o ho hp

theorem InRefs.append {c : Ctx} {objs : Objs} {bs cs os ps : List Nat} (h : InRefs c objs bs os) (g : InRefs c objs cs ps) : InRefs c objs (bs ++ cs) (os ++ ps) := by
  intro b hb
  rcases List.mem_append.1 hb with hb | hb
  · obtain ⟨o, ho, r⟩ := h b hb; exact ⟨o, List.mem_append.2 (.inl ho), r⟩
  · obtain ⟨o, ho, r⟩ := g b hb; exact ⟨o, List.mem_append.2 (.inr ho), r⟩

theorem fresh_cell {c : Ctx} {objs : Objs} {w : World} {B : Nat} (hr : RelObjs c objs w) (hB : ∀ b, Own c objs b → B ≤ b) {x : CV} {d : DC} {u : Value} (h : resCell objs x d) (hx : RelCV c objs w x u)
    {ds : List DC} {us : List Value} {bs os : List Nat} (hf : FreshCells B w ds us bs) (hin : InRefs c objs bs os) (hnd : ∀ o ∈ refCV x, o ∉ os) :
    ∃ bs', FreshCells B w (d :: ds) (u :: us) bs' ∧ InRefs c objs bs' (refCV x ++ os) := by
  unfold resCell at h
  split at h
  · rename_i y y'
    subst h
    have hone := hx.one
    obtain rfl := Rep.v_inv hx
    exact ⟨bs, .v _ hone hf, by simpa [refCV] using hin⟩
  · subst h
    obtain rfl := hx
    exact ⟨bs, .none _ _ hf, by simpa [refCV] using hin⟩
  · subst h
    obtain ⟨a, rfl⟩ := hx
    exact ⟨bs, .none _ _ hf, by simpa [refCV] using hin⟩
  · rename_i o ver e off len cap e' xs
    split at h
    · rename_i e'' ys hob
      obtain ⟨rfl, rfl, hol, rfl, hflat⟩ := h
      have hob' := objAt_some hob
      obtain ⟨a, cp, rfl, k2, k3, k4⟩ := hx.2.2 (live_of_objAt hob (by simp))
      have hlen : ((ys.drop off).take len).length = len := by simp; omega
      by_cases h0 : 0 < cp
      · obtain ⟨b, base, cs, T, g1, rfl, g3, g4⟩ := k4 h0
        have hown : Own c objs b := .of hob' rfl g1
        have hin' : InRefs c objs [b] [o] := by
          intro b' hb'
          obtain rfl := List.mem_singleton.1 hb'
          exact ⟨o, List.mem_singleton.2 rfl, ver, _, base, hob', rfl, g1⟩
        rcases hr.ob o ver _ hob' with ⟨q1, _⟩ | ⟨b', base', cs', T', q1, q2, q3, q4, q5⟩
        · rw [q1] at g1; cases g1
        rw [g1] at q1
        obtain ⟨rfl, rfl⟩ : b = b' ∧ base = base' := by simpa using q1
        rw [g3] at q2
        simp only [Option.some.injEq, Obj.cells.injEq, and_true] at q2
        obtain ⟨rfl, rfl⟩ := q2
        have hb : b ∉ bs := InRefs.disj hr hin' hin (by simpa [refCV] using hnd) b (List.mem_singleton.2 rfl)
        have := FreshCells.row (B := B) (w := w) e'' ((ys.drop off).take len) b (base + off * e'') cp cs T hb (hB b hown) g3 (by omega) (by rw [Nat.add_mul] at g4; omega)
          (fun x hx => q4 x (List.mem_of_mem_drop (List.mem_of_mem_take hx)))
          (fun i j d hd => by
            have hd0 := hd
            rw [List.getElem?_take] at hd
            split at hd
            · rw [List.getElem?_drop] at hd
              obtain ⟨u, m1, m2⟩ := q5 (off + i) j d hd
              refine ⟨u, ?_, m2.flat ?_⟩
              · rw [← m1, Nat.add_mul]; congr 1; omega
              · cases hy : ((ys.drop off).take len)[i]? with
                | none => simp [hy] at hd0
                | some y =>
                  rw [hy] at hd0
                  exact hflat y (List.mem_of_getElem? hy) d (List.mem_of_getElem? hd0)
            · simp at hd) hf
        rw [hlen] at this
        exact ⟨b :: bs, this, by have := hin'.append hin; simpa [refCV] using this⟩
      · have hz : len = 0 := by omega
        have hz2 : cp = 0 := by omega
        subst hz hz2
        simp only [List.take_zero]
        exact ⟨bs, .none _ _ hf, fun b hb => by obtain ⟨o', ho', r⟩ := hin b hb; exact ⟨o', List.mem_append.2 (.inr ho'), r⟩⟩
    · exact h.elim
  · exact h.elim

theorem fresh_cells {c : Ctx} {objs : Objs} {w : World} {B : Nat} (hr : RelObjs c objs w) (hB : ∀ b, Own c objs b → B ≤ b) : ∀ (xs : List CV) (ds : List DC) (us : List Value), resCells objs xs ds → us.length = xs.length →
    (∀ (i : Nat) x, xs[i]? = some x → ∃ u, us[i]? = some u ∧ RelCV c objs w x u) → (refCs xs).Nodup → ∃ bs, FreshCells B w ds us bs ∧ InRefs c objs bs (refCs xs)
  | [], [], [], _, _, _, _ => ⟨[], .nil, fun _ h => by cases h⟩
  | [], [], _ :: _, _, hl, _, _ => by simp at hl
  | [], _ :: _, _, h, _, _, _ => h.elim
  | _ :: _, [], _, h, _, _, _ => h.elim
  | _ :: _, _ :: _, [], _, hl, _, _ => by simp at hl
  | x :: r, d :: s, u :: us, h, hl, hx, hnd => by
    obtain ⟨h1, h2⟩ := h
    simp only [refCs, List.nodup_append] at hnd
    obtain ⟨n1, n2, n3⟩ := hnd
    obtain ⟨bs, k1, k2⟩ := fresh_cells hr hB r s us h2 (by simpa using hl) (fun i y hy => by simpa using hx (i + 1) y (by simpa using hy)) n2
    obtain ⟨u', m1, m2⟩ := hx 0 x rfl
    obtain rfl : u = u' := by simpa using m1
    exact fresh_cell hr hB h1 m2 k1 k2 (fun o ho ho' => n3 o ho o ho' rfl)

theorem fresh_vs {c : Ctx} {objs : Objs} {w : World} {B : Nat} (hr : RelObjs c objs w) (hB : ∀ b, Own c objs b → B ≤ b) : ∀ (xs : List V1) (ds : List DV) (us : List Value), resVs objs xs ds → us.length = xs.length →
    (∀ (i : Nat) x, xs[i]? = some x → ∃ u, us[i]? = some u ∧ RelV1 c objs w x u) → (refVs xs).Nodup → ∃ bs, FreshVs B w ds us bs ∧ InRefs c objs bs (refVs xs)
  | [], [], [], _, _, _, _ => ⟨[], .nil, fun _ h => by cases h⟩
  | [], [], _ :: _, _, hl, _, _ => by simp at hl
  | [], _ :: _, _, h, _, _, _ => h.elim
  | .c _ :: _, [], _, h, _, _, _ => h.elim
  | .agg _ :: _, [], _, h, _, _, _ => h.elim
  | .c _ :: _, .agg _ :: _, _, h, _, _, _ => h.elim
  | .agg _ :: _, .c _ :: _, _, h, _, _, _ => h.elim
  | .c _ :: _, .c _ :: _, [], _, hl, _, _ => by simp at hl
  | .agg _ :: _, .agg _ :: _, [], _, hl, _, _ => by simp at hl
  | .c x :: r, .c d :: s, u :: us, h, hl, hx, hnd => by
    obtain ⟨h1, h2⟩ := h
    simp only [refVs, List.nodup_append] at hnd
    obtain ⟨n1, n2, n3⟩ := hnd
    obtain ⟨bs, k1, k2⟩ := fresh_vs hr hB r s us h2 (by simpa using hl) (fun i y hy => by simpa using hx (i + 1) y (by simpa using hy)) n2
    obtain ⟨u', m1, m2⟩ := hx 0 _ rfl
    obtain rfl : u = u' := by simpa using m1
    obtain ⟨bs', f1, f2⟩ := fresh_cell hr hB h1 m2 .nil (os := []) (fun _ h => by cases h) (by simp)
    simp only [List.append_nil] at f2
    exact ⟨bs' ++ bs, .c f1 k1 (InRefs.disj hr f2 k2 (fun o ho ho' => n3 o ho o ho' rfl)), f2.append k2⟩
  | .agg xs :: r, .agg d :: s, u :: us, h, hl, hx, hnd => by
    obtain ⟨h1, h2⟩ := h
    simp only [refVs, List.nodup_append] at hnd
    obtain ⟨n1, n2, n3⟩ := hnd
    obtain ⟨bs, k1, k2⟩ := fresh_vs hr hB r s us h2 (by simpa using hl) (fun i y hy => by simpa using hx (i + 1) y (by simpa using hy)) n2
    obtain ⟨u', m1, m2⟩ := hx 0 _ rfl
    obtain rfl : u = u' := by simpa using m1
    obtain ⟨vs, rfl, e2, e3⟩ := m2
    obtain ⟨bs', f1, f2⟩ := fresh_cells hr hB xs d vs.toList h1 (by simpa using e2) (fun i x hi => by obtain ⟨u, p1, p2⟩ := e3 i x hi; exact ⟨u, by simpa using p1, p2⟩) n1
    exact ⟨bs' ++ bs, .agg f1 k1 (InRefs.disj hr f2 k2 (fun o ho ho' => n3 o ho o ho' rfl)), f2.append k2⟩

/-- A contract on data, from a walk whose arguments are only read. -/
theorem fn_of_call {P : Program} {f : FuncId} {args : List DV} {res : DR} (h : CallX P f (args.map DV.toV1) [] (fun sv objs => resOK objs sv res)) : Fn P f args res := by
  obtain ⟨hent, hcall⟩ := h
  refine ⟨hent, fun w vals hl hv => ?_⟩
  have hr0 : RelObjs { φ := fun _ => none, R := (· < w.heap.size), ψ := fun _ _ => none } [] w :=
    ⟨by simp, by simp, fun _ h => h, by simp, fun b hb => by obtain ⟨o, v, x, h1, _⟩ := hb; simp at h1⟩
  refine (hcall _ w vals hr0 (by simpa using hl) ?_).mono ?_
  · intro i x hx
    simp only [List.getElem?_map, Option.map_eq_some_iff] at hx
    obtain ⟨d, hd, rfl⟩ := hx
    obtain ⟨u, h1, h2⟩ := hv i d hd
    refine ⟨u, h1, ?_⟩
    cases d with
    | c x => exact rel_cvOf h2
    | agg xs =>
      obtain ⟨vs, rfl, e2, e3⟩ := h2
      refine ⟨vs, rfl, by simpa using e2, fun j y hy => ?_⟩
      simp only [List.getElem?_map, Option.map_eq_some_iff] at hy
      obtain ⟨d, hd, rfl⟩ := hy
      obtain ⟨u, m1, m2⟩ := e3 j d hd
      exact ⟨u, m1, rel_cvOf m2⟩
  · rintro e w' ⟨v, c', objs', sv, rfl, hE, hr', hsv, hk⟩
    have hB : ∀ b, Own c' objs' b → w.heap.size ≤ b := by
      intro b hb
      rcases hE.own b hb with ⟨o, v, x, h1, _⟩ | h
      · simp at h1
      · exact h
    refine ⟨v, rfl, ⟨hE.os, hE.tape, hE.output, hE.size, fun k hk => hE.keep k hk (fun ho => by obtain ⟨o, v, x, h1, _⟩ := ho; simp at h1)⟩, ?_⟩
    unfold resOK at hk
    split at hk
    · rename_i x d
      obtain ⟨bs, k1, _⟩ := fresh_vs hr' hB [x] [d] [v] hk.1 rfl (fun i y hy => by
        cases i with
        | zero => simp only [List.getElem?_cons_zero, Option.some.injEq] at hy; subst hy; exact ⟨v, rfl, hsv⟩
        | succ i => simp at hy) hk.2
      exact ⟨bs, k1⟩
    · rename_i xs ds
      obtain ⟨vs, rfl, e2, e3⟩ := hsv
      obtain ⟨bs, k1, _⟩ := fresh_vs hr' hB xs ds vs.toList hk.1 (by simpa using e2) (fun i x hi => by obtain ⟨u, p1, p2⟩ := e3 i x hi; exact ⟨u, by simpa using p1, p2⟩) hk.2
      exact ⟨vs, bs, rfl, k1⟩
    · exact hk.elim

section
variable {objs : Objs} {x : Value} {a : CV} {d : DC} {r : List CV} {s : List DC} {e : Nat} {xs : List (List DC)} {vr : List V1} {vs : List DV}
theorem resCell_v {y : Value} : resCell objs (.d (.v x)) (.v y) = (x = y) := rfl
theorem resCell_nilsl : resCell objs .nilsl (.list e xs) = (xs = []) := rfl
theorem resCell_esl : resCell objs .esl (.list e xs) = (xs = []) := rfl
theorem resCell_sl {o ver e' off len : Nat} {cap : Option Nat} : resCell objs (.sl o ver e' off len cap) (.list e xs) = (match objAt objs o ver with
    | some (.arr e'' ys) => e' = e ∧ e'' = e' ∧ off + len ≤ ys.length ∧ xs = (ys.drop off).take len ∧ ∀ y ∈ xs, ∀ d ∈ y, flatDC d
    | _ => False) := rfl
theorem resCells_nil : resCells objs [] [] = True := rfl
theorem resCells_cons : resCells objs (a :: r) (d :: s) = (resCell objs a d ∧ resCells objs r s) := rfl
theorem resVs_nil : resVs objs [] [] = True := rfl
theorem resVs_c : resVs objs (.c a :: vr) (.c d :: vs) = (resCell objs a d ∧ resVs objs vr vs) := rfl
theorem resVs_agg : resVs objs (.agg r :: vr) (.agg s :: vs) = (resCells objs r s ∧ resVs objs vr vs) := rfl
theorem refCV_d : refCV (.d d) = [] := rfl
theorem refCV_nilsl : refCV .nilsl = [] := rfl
theorem refCV_esl : refCV .esl = [] := rfl
theorem refCV_sl {o ver e' off len : Nat} {cap : Option Nat} : refCV (.sl o ver e' off len cap) = [o] := rfl
theorem resOK_one {v : V1} {d : DV} : resOK objs (.one v) (.one d) = ResOK objs [v] [d] := rfl
theorem resOK_tup : resOK objs (.tup vr) (.tup vs) = ResOK objs vr vs := rfl
end
theorem flatDC_v {x : Value} : flatDC (.v x) = True := rfl

end Go.Proofs.Ytbmaofepmheeeaa

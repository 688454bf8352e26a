/- The executor is sound: rows that are made and appended to. -/
import Derived.Test.YtbmaofepmheeeaaKf
namespace Go.Proofs.Ytbmaofepmheeeaa
open Go Go.RowKit

/-- ys lie one behind the other in the values us. -/
structure RepRow (w : World) (R : Nat → Prop) (e : Nat) (ys : List (List DC)) (us : List Value) : Prop where
  len : us.length = ys.length * e
  lens : ∀ x ∈ ys, x.length = e
  rep : ∀ (i j : Nat) d, (ys[i]?.bind (·[j]?)) = some d → ∃ u, us[i * e + j]? = some u ∧ Rep w R d u

theorem row_lt {e : Nat} {ys : List (List DC)} (h : ∀ x ∈ ys, x.length = e) {i j : Nat} {d : DC} (hd : (ys[i]?.bind (·[j]?)) = some d) : i < ys.length ∧ j < e ∧ i * e + j < ys.length * e := by
  cases hx : ys[i]? with
  | none => simp [hx] at hd
  | some x =>
    rw [hx] at hd
    have h1 := (List.getElem?_eq_some_iff.1 hx).1
    have h2 := h x (List.mem_of_getElem? hx)
    have h3 : j < x.length := (List.getElem?_eq_some_iff.1 hd).1
    have h4 : (i + 1) * e ≤ ys.length * e := Nat.mul_le_mul_right e h1
    rw [Nat.succ_mul] at h4
    exact ⟨h1, by omega, by omega⟩

theorem RepRow.get {w : World} {R : Nat → Prop} {e : Nat} {ys : List (List DC)} {us : List Value} (h : RepRow w R e ys us) (he : 0 < e) {p : Nat} {u : Value} (hp : us[p]? = some u) :
    ∃ d, (ys[p / e]?.bind (·[p % e]?)) = some d ∧ Rep w R d u := by
  have hlt : p < ys.length * e := by rw [← h.len]; exact (List.getElem?_eq_some_iff.1 hp).1
  have h1 : p / e < ys.length := by rw [Nat.div_lt_iff_lt_mul he]; exact hlt
  have h2 : p % e < e := Nat.mod_lt _ he
  have h3 := h.lens _ (List.getElem_mem h1)
  have h4 : (ys[p / e]?.bind (·[p % e]?)) = some (ys[p / e][p % e]'(by omega)) := by
    rw [List.getElem?_eq_getElem h1, Option.bind_some, List.getElem?_eq_getElem]
  obtain ⟨u', k1, k2⟩ := h.rep _ _ _ h4
  rw [show p / e * e + p % e = p by rw [Nat.mul_comm]; exact Nat.div_add_mod p e, hp] at k1
  obtain rfl := Option.some.inj k1
  exact ⟨_, h4, k2⟩

theorem RepRow.one {w : World} {R : Nat → Prop} {e : Nat} {ys : List (List DC)} {us : List Value} (h : RepRow w R e ys us) (he : 0 < e) : ∀ u ∈ us, u.oneCell' = true := by
  intro u hu
  obtain ⟨p, hp, rfl⟩ := List.mem_iff_getElem.1 hu
  obtain ⟨d, _, h2⟩ := h.get he (List.getElem?_eq_getElem hp)
  exact h2.one

theorem RepRow.append {w : World} {R : Nat → Prop} {e : Nat} {ys zs : List (List DC)} {us vs : List Value} (h : RepRow w R e ys us) (g : RepRow w R e zs vs) : RepRow w R e (ys ++ zs) (us ++ vs) := by
  refine ⟨by simp [h.len, g.len, Nat.add_mul], fun x hx => ?_, fun i j d hd => ?_⟩
  · rcases List.mem_append.1 hx with hx | hx
    · exact h.lens x hx
    · exact g.lens x hx
  · by_cases hi : i < ys.length
    · rw [List.getElem?_append_left hi] at hd
      obtain ⟨u, k1, k2⟩ := h.rep i j d hd
      refine ⟨u, ?_, k2⟩
      rw [List.getElem?_append_left (by rw [h.len]; exact (row_lt h.lens hd).2.2), k1]
    · rw [List.getElem?_append_right (by omega)] at hd
      obtain ⟨u, k1, k2⟩ := g.rep (i - ys.length) j d hd
      refine ⟨u, ?_, k2⟩
      have hm : ys.length * e ≤ i * e := Nat.mul_le_mul_right e (by omega)
      rw [List.getElem?_append_right (by rw [h.len]; omega), ← k1, h.len, Nat.sub_mul]
      congr 1; omega

theorem RepRow.slice {w : World} {R : Nat → Prop} {e : Nat} {ys : List (List DC)} {us : List Value} (h : RepRow w R e ys us) (off len : Nat) (hl : off + len ≤ ys.length) :
    RepRow w R e ((ys.drop off).take len) ((us.drop (off * e)).take (len * e)) := by
  have hm : (off + len) * e ≤ ys.length * e := Nat.mul_le_mul_right e hl
  rw [Nat.add_mul] at hm
  refine ⟨by simp [h.len]; rw [Nat.min_eq_left (by omega), Nat.min_eq_left (by omega)], fun x hx => h.lens x (List.mem_of_mem_drop (List.mem_of_mem_take hx)), fun i j d hd => ?_⟩
  rw [List.getElem?_take] at hd
  split at hd
  · rename_i hi
    rw [List.getElem?_drop] at hd
    obtain ⟨u, k1, k2⟩ := h.rep _ j d hd
    refine ⟨u, ?_, k2⟩
    have hj := (row_lt h.lens hd).2.1
    have h4 : (i + 1) * e ≤ len * e := Nat.mul_le_mul_right e hi
    rw [Nat.succ_mul] at h4
    rw [List.getElem?_take, if_pos (by omega), List.getElem?_drop, ← k1, Nat.add_mul]
    congr 1; omega
  · simp at hd

theorem RepRow.replicate {w : World} {R : Nat → Prop} {z : List DC} {zs : List Value} (hz : zs.length = z.length) (hr : ∀ (j : Nat) d, z[j]? = some d → ∃ u, zs[j]? = some u ∧ Rep w R d u) (n : Nat) :
    RepRow w R z.length (List.replicate n z) (List.replicate n zs).flatten := by
  induction n with
  | zero => exact ⟨by simp, by simp, by simp⟩
  | succ n ih =>
    rw [List.replicate_succ, List.replicate_succ, List.flatten_cons]
    have h1 : RepRow w R z.length [z] zs := ⟨by simp [hz], by simp, fun i j d hd => by
      cases i with
      | zero => simp only [List.getElem?_cons_zero, Option.bind_some] at hd; simpa using hr j d hd
      | succ i => simp at hd⟩
    exact h1.append ih

theorem RepRow.set {w : World} {R : Nat → Prop} {e : Nat} {ys : List (List DC)} {us : List Value} (h : RepRow w R e ys us) {i : Nat} {ds : List DC} {vs : List Value} (hi : i < ys.length) (hd : ds.length = e) (hv : vs.length = e)
    (hr : ∀ (j : Nat) d, ds[j]? = some d → ∃ u, vs[j]? = some u ∧ Rep w R d u) :
    RepRow w R e (ys.set i ds) (us.take (i * e) ++ vs ++ us.drop (i * e + e)) := by
  have hm : (i + 1) * e ≤ ys.length * e := Nat.mul_le_mul_right e hi
  rw [Nat.succ_mul] at hm
  have hlt : (us.take (i * e)).length = i * e := by rw [List.length_take, h.len, Nat.min_eq_left (by omega)]
  refine ⟨by simp only [List.length_append, hlt, hv, List.length_drop, h.len, List.length_set]; omega, fun x hx => ?_, fun i' j d hd' => ?_⟩
  · rcases List.mem_or_eq_of_mem_set hx with hx | rfl
    · exact h.lens x hx
    · exact hd
  · rw [List.getElem?_set] at hd'
    rw [List.append_assoc]
    by_cases hii : i = i'
    · subst hii
      rw [if_pos rfl, if_pos hi, Option.bind_some] at hd'
      obtain ⟨u, k1, k2⟩ := hr j d hd'
      have hj : j < e := by rw [← hd]; exact (List.getElem?_eq_some_iff.1 hd').1
      refine ⟨u, ?_, k2⟩
      rw [List.getElem?_append_right (by omega), hlt, List.getElem?_append_left (by omega), ← k1]
      congr 1; omega
    · rw [if_neg hii] at hd'
      obtain ⟨u, k1, k2⟩ := h.rep i' j d hd'
      have hj := row_lt h.lens hd'
      refine ⟨u, ?_, k2⟩
      rcases Nat.lt_or_gt_of_ne hii with hl | hl
      · have h5 : (i + 1) * e ≤ i' * e := Nat.mul_le_mul_right e hl
        rw [Nat.succ_mul] at h5
        rw [List.getElem?_append_right (by omega), hlt, List.getElem?_append_right (by omega), List.getElem?_drop, ← k1]
        congr 1; omega
      · have h5 : (i' + 1) * e ≤ i * e := Nat.mul_le_mul_right e hl
        rw [Nat.succ_mul] at h5
        rw [List.getElem?_append_left (by omega), List.getElem?_take, if_pos (by omega), k1]

theorem Rep.row {w : World} {R : Nat → Prop} {e : Nat} {xs : List (List DC)} {a : Option Addr} {n cap : Nat} (h : Rep w R (.list e xs) (.slice a n cap)) :
    n = xs.length ∧ ∃ us, RepRow w R e xs us ∧ ∀ (p : Nat) u, us[p]? = some u → ∃ b off, a = some ⟨b, off, none⟩ ∧ w.cell? ⟨b, off + p, none⟩ = some u := by
  cases h with
  | list _ _ _ _ val hc hl hcell hrep =>
    refine ⟨rfl, (List.range (xs.length * e)).map fun p => val (p / e) (p % e), ⟨by simp, hl, fun i j d hd => ?_⟩, fun p u hp => ?_⟩
    · obtain ⟨h1, h2, h3⟩ := row_lt hl hd
      refine ⟨val i j, ?_, hrep i j d hd⟩
      have h4 : (i * e + j) / e = i := by rw [Nat.mul_comm, Nat.mul_add_div (by omega), Nat.div_eq_of_lt h2, Nat.add_zero]
      have h5 : (i * e + j) % e = j := by rw [Nat.mul_comm, Nat.mul_add_mod, Nat.mod_eq_of_lt h2]
      simp [h3, h4, h5]
    · simp only [List.getElem?_map, Option.map_eq_some_iff] at hp
      obtain ⟨q, hq, rfl⟩ := hp
      have hlt : p < xs.length * e := by have := (List.getElem?_eq_some_iff.1 hq).1; simpa using this
      obtain rfl : p = q := by simpa [hlt] using hq
      have he : 0 < e := by rcases Nat.eq_zero_or_pos e with h0 | h0; · subst h0; simp at hlt
                            · exact h0
      have h1 : p / e < xs.length := by rw [Nat.div_lt_iff_lt_mul he]; exact hlt
      obtain ⟨b, off, k1, _, k2⟩ := hcell (p / e) (p % e) h1 (Nat.mod_lt _ he)
      refine ⟨b, off, k1, ?_⟩
      rw [show p / e * e + p % e = p by rw [Nat.mul_comm]; exact Nat.div_add_mod p e] at k2
      exact k2

/-- The content of a slice: how it lies in memory. -/
theorem run_contentX {P : Program} {c : Ctx} {objs : Objs} {w : World} {e : Nat} {x : CV} {u : Value} {ys : List (List DC)} (hr : RelObjs c objs w) (he : 0 < e)
    (h : contentX objs e x = some ys) (hok : contentOK objs x) (hx : RelCV c objs w x u) :
    ∃ a cap us, u = .slice a ys.length cap ∧ ys.length ≤ cap ∧ RepRow w c.R e ys us ∧ (∀ w' : World, w'.heap = w.heap → (Builtin.firstCells e ys.length u).run P w' = .ok us.toArray w') ∧
      (∀ (p : Nat) v, us[p]? = some v → ∃ b off, a = some ⟨b, off, none⟩ ∧ w.cell? ⟨b, off + p, none⟩ = some v) := by
  have nil_case : ∀ a cap, ∃ us, RepRow w c.R e [] us ∧ (∀ w' : World, w'.heap = w.heap → (Builtin.firstCells e 0 (.slice a 0 cap)).run P w' = .ok us.toArray w') ∧ (∀ (p : Nat) v, us[p]? = some v → ∃ b off, a = some ⟨b, off, none⟩ ∧ w.cell? ⟨b, off + p, none⟩ = some v) := by
    intro a cap
    refine ⟨[], ⟨by simp, by simp, by simp⟩, fun w' _ => ?_, by simp⟩
    cases a with
    | none => rfl
    | some a => simp [Builtin.firstCells, loadCells, loadCellsFrom]
  have gen : ∀ (a : Option Addr) (cap : Nat) (us : List Value), RepRow w c.R e ys us → (∀ (p : Nat) v, us[p]? = some v → ∃ b off, a = some ⟨b, off, none⟩ ∧ w.cell? ⟨b, off + p, none⟩ = some v) →
      ∀ w' : World, w'.heap = w.heap → (Builtin.firstCells e ys.length (.slice a ys.length cap)).run P w' = .ok us.toArray w' := by
    intro a cap us hrow hcl w' hw'
    have hcell' : ∀ ad, w'.cell? ad = w.cell? ad := fun ad => by unfold World.cell?; rw [hw']
    cases a with
    | none =>
      have : us = [] := by
        cases us with
        | nil => rfl
        | cons v r => obtain ⟨b, off, k, _⟩ := hcl 0 v rfl; cases k
      subst this
      rfl
    | some a =>
      by_cases h0 : us = []
      · subst h0
        have : ys.length * e = 0 := by have := hrow.len; simpa using this.symm
        simp [Builtin.firstCells, this, loadCells, loadCellsFrom]
      · obtain ⟨v, r, rfl⟩ := List.exists_cons_of_ne_nil h0
        obtain ⟨b, off, k, _⟩ := hcl 0 v rfl
        obtain rfl := Option.some.inj k
        have := run_loadCells_list (P := P) w' ⟨b, off, none⟩ (v :: r) (fun j z hz => by
          obtain ⟨b', off', k', hc'⟩ := hcl j z hz
          simp only [Option.some.injEq, Addr.mk.injEq, and_true] at k'
          obtain ⟨rfl, rfl⟩ := k'
          rw [add_none, hcell']; exact hc')
        rw [hrow.len] at this
        simp [Builtin.firstCells, this]
  unfold contentX at h
  split at h
  · obtain rfl := Option.some.inj h
    obtain rfl := hx
    obtain ⟨us, h1, h2, h3⟩ := nil_case none 0
    exact ⟨none, 0, us, rfl, Nat.le_refl _, h1, h2, h3⟩
  · obtain rfl := Option.some.inj h
    obtain ⟨a, rfl⟩ := hx
    obtain ⟨us, h1, h2, h3⟩ := nil_case a 0
    exact ⟨a, 0, us, rfl, Nat.le_refl _, h1, h2, h3⟩
  · rename_i e' xs
    split at h
    · rename_i he'
      subst he'
      obtain rfl := Option.some.inj h
      obtain ⟨a, cap, rfl, hcap⟩ := Rep.slice_form hx
      obtain ⟨_, us, h1, h2⟩ := Rep.row hx
      exact ⟨a, cap, us, rfl, hcap, h1, gen a cap us h1 h2, h2⟩
    · cases h
  · rename_i o ver e' off len cap
    split at h
    · rename_i e'' xs hob
      split at h
      · rename_i he'
        obtain ⟨he1, he2⟩ := he'
        rw [he1] at hx
        rw [he2] at hob
        clear he1 he2
        obtain rfl := Option.some.inj h
        have hob' := (objRd_ob hr hob).1
        obtain ⟨hone, hkn, hx⟩ := hx
        obtain ⟨a, cp, rfl, h2, h3, h4⟩ := hx (objRd_live hob)
        have hol : off + len ≤ xs.length := by simpa [contentOK, hob] using hok
        have hlen : ((xs.drop off).take len).length = len := by simp; omega
        by_cases h0 : len = 0
        · subst h0
          obtain ⟨us, k1, k2, k3⟩ := nil_case a cp
          simp only [List.take_zero, List.length_nil]
          exact ⟨a, cp, us, rfl, Nat.zero_le _, k1, k2, k3⟩
        · obtain ⟨b, base, cs, T', g1, rfl, g3, g4⟩ := h4 (by omega)
          rcases hob' with ⟨q1, _⟩ | ⟨b', base', cs', T'', q1, q2, q3, q4, q5⟩
          · rw [q1] at g1; cases g1
          · rw [g1] at q1
            obtain ⟨rfl, rfl⟩ : b = b' ∧ base = base' := by simpa using q1
            rw [g3] at q2
            simp only [Option.some.injEq, Obj.cells.injEq, and_true] at q2
            obtain ⟨rfl, rfl⟩ := q2
            have hrow : RepRow w c.R e xs ((cs.toList.drop base).take (xs.length * e)) := by
              refine ⟨by simp; omega, q4, fun i j d hd => ?_⟩
              obtain ⟨u, k1, k2⟩ := q5 i j d hd
              refine ⟨u, ?_, k2⟩
              rw [List.getElem?_take, if_pos (row_lt q4 hd).2.2, List.getElem?_drop, ← k1]
              simp
            have hrow2 := hrow.slice off len hol
            have hcl : ∀ (p : Nat) v, ((((cs.toList.drop base).take (xs.length * e)).drop (off * e)).take (len * e))[p]? = some v → ∃ b' off', (some ⟨b, base + off * e, none⟩ : Option Addr) = some ⟨b', off', none⟩ ∧ w.cell? ⟨b', off' + p, none⟩ = some v := by
              intro p v hp
              refine ⟨b, base + off * e, rfl, ?_⟩
              rw [List.getElem?_take] at hp
              split at hp
              · rw [List.getElem?_drop, List.getElem?_take] at hp
                split at hp
                · rw [List.getElem?_drop] at hp
                  rw [cell_of g3, ← hp, Array.getElem?_toList]
                  congr 1; omega
                · cases hp
              · cases hp
            have := gen (some ⟨b, base + off * e, none⟩) cp _ hrow2 hcl
            rw [hlen] at this ⊢
            exact ⟨_, cp, _, rfl, h2, hrow2, this, hcl⟩
      · cases h
    · cases h
  · cases h

end Go.Proofs.Ytbmaofepmheeeaa

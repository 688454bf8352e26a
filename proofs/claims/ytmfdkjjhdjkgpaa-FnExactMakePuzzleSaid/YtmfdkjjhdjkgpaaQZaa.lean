/- Sorting by the library: from its contract on rows of cells to the calculus. -/
import Derived.Test.YtmfdkjjhdjkgpaaQZf
import Derived.Shelf.SlSortCmp.WholeK
namespace Go.Proofs.Ytmfdkjjhdjkgpaa
open Go Go.RowKit
open Go.Sort (grow mapBlock onCells putCells PermIn SortedIn flatK get_flatK HoldsK putRowK)

/-- New blocks behind the heap, and draws, turn nothing that is known. -/
theorem grow_ok {c : Ctx} {objs : Objs} {w w' : World} (os : Array Obj) (hr : RelObjs c objs w) (hh : w'.heap = w.heap ++ os) (ht : w'.tape = w.tape) (ho : w'.os = w.os) (hu : w'.output = w.output) :
    Ext objs.length c objs w c objs w' ∧ RelObjs c objs w' := by
  have hsame : ∀ b, b < w.heap.size → w'.heap[b]? = w.heap[b]? := fun b hb => by rw [hh, Array.getElem?_append_left hb]
  have hE : Ext objs.length c objs w c objs w' := by
    refine ⟨by rw [hh]; simp, ht, ho, hu, fun b hb _ => hsame b hb, fun b cs T hb => ?_, fun b hb => .inl hb, fun _ h => h, fun _ h => .inl h, fun o cur bd _ h1 => ⟨cur, bd, h1, Nat.le_refl _, fun _ h => ⟨h, rfl, fun _ _ h => h⟩⟩⟩
    have hlt : b < w.heap.size := (Array.getElem?_eq_some_iff.1 hb).1
    exact ⟨cs, (hsame b hlt).trans hb, rfl⟩
  refine ⟨hE, fun o ver bd h1 => ?_, hr.inj, fun b hb => ?_, fun o ver bd b h1 h2 h3 => ?_, hr.oR⟩
  · by_cases hd : bd = .dead
    · subst hd; exact trivial
    exact RelOB.keep hE (Nat.le_refl _) hr rfl rfl (fun b hb => hsame b (hr.lsize o ver bd b h1 hd hb)) (hr.ob o ver bd h1)
  · have := hr.rsize b hb
    rw [hh]; simp; omega
  · have := hr.lsize o ver bd b h1 h2 h3
    rw [hh]; simp; omega

theorem flat_get {α : Type} [Inhabited α] (enc : α → List Value) {e : Nat} (d : Array α) {i j : Nat} (hi : i < d.size) (hj : j < e) :
    (flatK enc e d)[i * e + j]! = (enc d[i]!)[j]! := by
  have h1 : i * e + j < d.size * e := by
    have : (i + 1) * e ≤ d.size * e := Nat.mul_le_mul_right _ hi
    rw [Nat.succ_mul] at this; omega
  rw [get_flatK enc e d _ h1]
  have h2 : (i * e + j) / e = i := by rw [Nat.mul_comm, Nat.mul_add_div (by omega), Nat.div_eq_of_lt hj]; rfl
  have h3 : (i * e + j) % e = j := by rw [Nat.mul_comm, Nat.mul_add_mod, Nat.mod_eq_of_lt hj]
  rw [h2, h3]

/-- The cells of an element, as data. -/
abbrev encD {α : Type} (enc : α → List Value) (x : α) : List DC := (enc x).map DC.v

theorem encD_get {α : Type} [Inhabited α] {enc : α → List Value} {e : Nat} (hk : ∀ x, (enc x).length = e) {xs : List α} {i j : Nat} {d : DC} (h : ((xs.map (encD enc))[i]?.bind (·[j]?)) = some d) :
    i < xs.length ∧ j < e ∧ d = .v ((enc (xs.toArray[i]!))[j]!) := by
  rw [List.getElem?_map] at h
  cases hx : xs[i]? with
  | none => rw [hx] at h; cases h
  | some x =>
    rw [hx] at h
    have h : (encD enc x)[j]? = some d := h
    obtain ⟨hi, rfl⟩ := List.getElem?_eq_some_iff.1 hx
    rw [List.getElem?_map] at h
    cases hy : (enc xs[i])[j]? with
    | none => rw [hy] at h; cases h
    | some y =>
      rw [hy] at h
      obtain ⟨hj, rfl⟩ := List.getElem?_eq_some_iff.1 hy
      refine ⟨hi, by rw [hk] at hj; exact hj, ?_⟩
      have h1 : xs.toArray[i]! = xs[i] := by simp [hi]
      rw [h1, getElem!_pos _ j hj]
      exact (Option.some.inj h).symm

theorem encD_at {α : Type} [Inhabited α] {enc : α → List Value} {e : Nat} (hk : ∀ x, (enc x).length = e) {xs : List α} {i j : Nat} (hi : i < xs.length) (hj : j < e) :
    ((xs.map (encD enc))[i]?.bind (·[j]?)) = some (.v ((enc (xs.toArray[i]!))[j]!)) := by
  have h1 : xs.toArray[i]! = xs[i] := by simp [hi]
  have hj' : j < (enc xs[i]).length := by rw [hk]; exact hj
  rw [List.getElem?_map, List.getElem?_eq_getElem hi, h1, getElem!_pos _ j hj']
  show (encD enc xs[i])[j]? = _
  rw [List.getElem?_map, List.getElem?_eq_getElem hj']
  rfl

/-- A row of the call's own, sorted by the library. -/
theorem sort_min {P : Program} {f g e n : Nat} {cap : Option Nat} {α : Type} [Inhabited α] (enc : α → List Value) (lt : α → α → Bool) (xs : List α) (he : 0 < e) (hk : ∀ x, (enc x).length = e) (h1 : ∀ x, ∀ v ∈ enc x, v.oneCell' = true)
    (hent : enterable P f = true) (hpos : 0 < xs.length) (hn : n = xs.length)
    (hcon : ∀ (blk off cp : Nat) (w : World), HoldsK enc e w blk off xs.toArray → blk < w.heap.size → Calls P f #[.slice (some ⟨blk, off, none⟩) xs.toArray.size cp, .func (.func g) #[] #[]] w fun ex w' =>
      ex = .returned (.tuple #[]) ∧ ∃ d' m os, PermIn 0 xs.toArray.size xs.toArray d' ∧ SortedIn lt 0 xs.toArray.size d' ∧ w' = sortWorldK enc e w blk off m d' os) :
    CallX P f [.c (.sl 0 0 e 0 n cap), .c (.fn g [])] [(0, .arr e (xs.map (encD enc)))]
      (fun sv objs' => sv = .tup [] ∧ ∃ ys : List α, ys.Perm xs ∧ ys.Pairwise (fun a b => lt b a = false) ∧ ∃ gs, objs' = (0, .arr e (ys.map (encD enc))) :: gs) := by
  subst hn
  refine ⟨hent, fun c w vals hr hl hv => ?_⟩
  obtain ⟨u, k1, _, _, hx⟩ := hv 0 _ rfl
  obtain ⟨u', k1', vs, rfl, hvs, _⟩ := hv 1 _ rfl
  obtain rfl : vs = #[] := Array.eq_empty_of_size_eq_zero hvs
  obtain ⟨a, cp, rfl, hle, _, hb⟩ := hx ⟨_, rfl, by simp⟩
  obtain ⟨b, base, cs, T, hφ, rfl, hheap, hsz⟩ := hb (by omega)
  rcases hr.ob 0 0 _ rfl with ⟨hnone, _⟩ | ⟨b', base', cs', T', q1, q2, q3, q4, q5⟩
  · rw [hφ] at hnone; cases hnone
  rw [hφ] at q1
  obtain ⟨rfl, rfl⟩ : b = b' ∧ base = base' := by simpa using q1
  rw [hheap] at q2
  obtain ⟨rfl, rfl⟩ : cs = cs' ∧ T = T' := by simpa using q2
  have hvals : vals = #[.slice (some ⟨b, base + 0 * e, none⟩) xs.length cp, .func (.func g) #[] #[]] := by
    apply Array.ext_getElem?
    intro i
    match i with
    | 0 => exact k1
    | 1 => exact k1'
    | i + 2 => rw [Array.getElem?_eq_none (by rw [hl]; simp), Array.getElem?_eq_none (by simp)]
  subst hvals
  have hlt : b < w.heap.size := (Array.getElem?_eq_some_iff.1 hheap).1
  have hH : HoldsK enc e w b (base + 0 * e) xs.toArray := by
    intro t ht
    have ht : t < xs.length * e := by simpa [flatK] using ht
    have hi : t / e < xs.length := (Nat.div_lt_iff_lt_mul he).2 ht
    have hj : t % e < e := Nat.mod_lt _ he
    have hte : t / e * e + t % e = t := Nat.div_add_mod' t e
    obtain ⟨u, m1, m2⟩ := q5 (t / e) (t % e) _ (encD_at hk hi hj)
    obtain rfl := Rep.v_inv m2
    constructor
    · rw [cell_of hheap]
      have hf := flat_get enc xs.toArray (i := t / e) (by simpa using hi) hj
      rw [hte] at hf m1
      rw [show (id (flatK enc e xs.toArray)[t]! : Value) = (enc xs.toArray[t / e]!)[t % e]! from hf, ← m1]
      congr 1; omega
    · unfold World.frozen?
      rw [hheap]; simp
  refine (hcon b (base + 0 * e) cp w hH hlt).mono ?_
  rintro ex w' ⟨rfl, d', m, os, ⟨hp1, hp2, hp3⟩, hs, rfl⟩
  have hd : d'.size = xs.length := by simpa using hp1
  have hw1 : (putRowK enc e (Go.Sort.ahead w m) b (base + 0 * e) d').heap[b]? = some (.cells (putCells id (base + 0 * e) (flatK enc e d') cs) T (0, 0)) := by
    show (w.heap.modify b (onCells (putCells id (base + 0 * e) (flatK enc e d'))))[b]? = _
    rw [Array.getElem?_modify, if_pos rfl, hheap]; rfl
  have hpsz : (putCells id (base + 0 * e) (flatK enc e d') cs).size = cs.size := by simp [putCells]
  have hW := write_gen (w' := putRowK enc e (Go.Sort.ahead w m) b (base + 0 * e) d') (bd' := .arr e (d'.toList.map (encD enc))) hr (o := 0) (ver := 0) (b := b) rfl rfl rfl (c.has_of hφ) (by simp [putRowK, Go.Sort.putRow, mapBlock, Go.Sort.ahead]) rfl rfl rfl
    (fun k hk => by
      show (w.heap.modify b _)[k]? = _
      rw [Array.getElem?_modify, if_neg (Ne.symm hk)])
    (fun ks U hU => by
      rw [hheap] at hU
      obtain ⟨rfl, rfl⟩ : cs = ks ∧ T = U := by simpa using hU
      exact ⟨_, hw1, hpsz⟩)
    (fun hE => by
      refine .inr ⟨b, base, _, T, hφ, hw1, by rw [hpsz]; simpa [hd] using q3, fun x hx => ?_, fun i j d hij => ?_⟩
      · obtain ⟨y, _, rfl⟩ := List.mem_map.1 hx
        simp [encD, hk]
      · obtain ⟨hi, hj, rfl⟩ := encD_get hk hij
        have hi' : i < d'.size := by simpa using hi
        have hlt2 : i * e + j < xs.length * e := by
          have : (i + 1) * e ≤ xs.length * e := Nat.mul_le_mul_right _ (by omega)
          rw [Nat.succ_mul] at this; omega
        have q3' : base + xs.length * e ≤ cs.size := by simpa using q3
        refine ⟨_, ?_, .v _ (h1 (d'.toList.toArray[i]!) _ ?_)⟩
        · have hfs : (flatK enc e d').size = xs.length * e := by simp [flatK, hd]
          simp only [putCells, Array.getElem?_mapIdx]
          rw [Array.getElem?_eq_getElem (by omega), Option.map_some, if_pos ⟨by omega, by rw [hfs]; omega⟩, show base + (i * e + j) - (base + 0 * e) = i * e + j by omega, flat_get enc d' hi' hj]
          simp
        · have hjl : j < (enc (d'.toList.toArray[i]!)).length := by rw [hk]; exact hj
          rw [getElem!_pos (enc (d'.toList.toArray[i]!)) j hjl]
          exact List.getElem_mem _)
  have hG := grow_ok (w' := sortWorldK enc e w b (base + 0 * e) m d' os) os hW.2 rfl rfl rfl rfl
  refine ⟨_, c, [(0, .arr e (d'.toList.map (encD enc)))], .tup [], rfl, hW.1.trans hG.1 (Nat.le_refl _), hG.2, ⟨#[], rfl, rfl, by simp⟩, rfl, d'.toList, ?_, ?_, [], rfl⟩
  · have : d'.extract 0 xs.toArray.size = d' := by rw [show xs.toArray.size = d'.size by simp [hd]]; simp
    rw [this] at hp3
    simpa using hp3
  · rw [List.pairwise_iff_getElem]
    intro i j hi hj hij
    have hj' : j < d'.size := by simpa using hj
    have hi' : i < d'.size := by omega
    have := hs i j (Nat.zero_le _) hij (by simp; omega)
    rw [getElem!_pos d' j hj', getElem!_pos d' i hi'] at this
    simpa using this

end Go.Proofs.Ytmfdkjjhdjkgpaa

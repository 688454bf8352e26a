/- Sorting by the library: from its contract on rows of cells to the calculus. -/
import Derived.Test.YtmjaefnmianfpaaQZf
import Derived.Shelf.SlSortCmp.WholeK
import Derived.Test.YtmjaefnmianfpaaQPsort
import Derived.Test.YtmjaefnmianfpaaQZe
import Derived.Test.YtmjaefnmianfpaaQT
import Derived.WalkKit
import Derived.Shelf.Lay
namespace Go.Proofs.Ytmjaefnmianfpaa
open Go Go.RowKit
open Go.Sort (grow mapBlock onCells putCells PermIn SortedIn flatK get_flatK HoldsK putRowK)

/-- New blocks behind the heap, and draws, turn nothing that is known. -/
theorem grow_ok {c : Ctx} {objs : Objs} {w w' : World} (os : Array Obj) (hr : RelObjs c objs w) (hh : w'.heap = w.heap ++ os) (ht : w'.tape = w.tape) (ho : w'.os = w.os) (hu : w'.output = w.output) :
    Ext objs.length c objs w c objs w' ∧ RelObjs c objs w' := by
  have hsame : ∀ b, b < w.heap.size → w'.heap[b]? = w.heap[b]? := fun b hb => by rw [hh, Array.getElem?_append_left hb]
  have hE : Ext objs.length c objs w c objs w' := by
    refine ⟨by rw [hh]; simp, ht, ho, hu, fun b hb _ => hsame b hb, fun b cs T hb => ?_, fun b hb => .inl hb, fun _ h => h, fun _ h => .inl h, fun o cur bd _ h1 => ⟨cur, bd, h1, Nat.le_refl _, fun _ h => ⟨h, rfl, fun _ _ h => h⟩⟩⟩
    have hlt : b < w.heap.size := (Array.getElem?_eq_some_iff.1 hb).1
    exact ⟨cs, (hsame b hlt).trans hb, rfl⟩
  refine ⟨hE, fun o ver bd h1 => ?_, hr.inj, fun b hb => ?_, fun o ver bd b h1 h2 h3 => ?_, hr.oR⟩
  · by_cases hd : bd = .dead
    · subst hd; exact trivial
    exact RelOB.keep hE (Nat.le_refl _) hr rfl rfl (fun b hb => hsame b (hr.lsize o ver bd b h1 hd hb)) (hr.ob o ver bd h1)
  · have := hr.rsize b hb
    rw [hh]; simp; omega
  · have := hr.lsize o ver bd b h1 h2 h3
    rw [hh]; simp; omega

theorem flat_get {α : Type} [Inhabited α] (enc : α → List Value) {e : Nat} (d : Array α) {i j : Nat} (hi : i < d.size) (hj : j < e) :
    (flatK enc e d)[i * e + j]! = (enc d[i]!)[j]! := by
  have h1 : i * e + j < d.size * e := by
    have : (i + 1) * e ≤ d.size * e := Nat.mul_le_mul_right _ hi
    rw [Nat.succ_mul] at this; omega
  rw [get_flatK enc e d _ h1]
  have h2 : (i * e + j) / e = i := by rw [Nat.mul_comm, Nat.mul_add_div (by omega), Nat.div_eq_of_lt hj]; rfl
  have h3 : (i * e + j) % e = j := by rw [Nat.mul_comm, Nat.mul_add_mod, Nat.mod_eq_of_lt hj]
  rw [h2, h3]

/-- The cells of an element, as data. -/
abbrev encD {α : Type} (enc : α → List Value) (x : α) : List DC := (enc x).map DC.v

theorem encD_get {α : Type} [Inhabited α] {enc : α → List Value} {e : Nat} (hk : ∀ x, (enc x).length = e) {xs : List α} {i j : Nat} {d : DC} (h : ((xs.map (encD enc))[i]?.bind (·[j]?)) = some d) :
    i < xs.length ∧ j < e ∧ d = .v ((enc (xs.toArray[i]!))[j]!) := by
  rw [List.getElem?_map] at h
  cases hx : xs[i]? with
  | none => rw [hx] at h; cases h
  | some x =>
    rw [hx] at h
    have h : (encD enc x)[j]? = some d := h
    obtain ⟨hi, rfl⟩ := List.getElem?_eq_some_iff.1 hx
    rw [List.getElem?_map] at h
    cases hy : (enc xs[i])[j]? with
    | none => rw [hy] at h; cases h
    | some y =>
      rw [hy] at h
      obtain ⟨hj, rfl⟩ := List.getElem?_eq_some_iff.1 hy
      refine ⟨hi, by rw [hk] at hj; exact hj, ?_⟩
      have h1 : xs.toArray[i]! = xs[i] := by simp [hi]
      rw [h1, getElem!_pos _ j hj]
      exact (Option.some.inj h).symm

theorem encD_at {α : Type} [Inhabited α] {enc : α → List Value} {e : Nat} (hk : ∀ x, (enc x).length = e) {xs : List α} {i j : Nat} (hi : i < xs.length) (hj : j < e) :
    ((xs.map (encD enc))[i]?.bind (·[j]?)) = some (.v ((enc (xs.toArray[i]!))[j]!)) := by
  have h1 : xs.toArray[i]! = xs[i] := by simp [hi]
  have hj' : j < (enc xs[i]).length := by rw [hk]; exact hj
  rw [List.getElem?_map, List.getElem?_eq_getElem hi, h1, getElem!_pos _ j hj']
  show (encD enc xs[i])[j]? = _
  rw [List.getElem?_map, List.getElem?_eq_getElem hj']
  rfl

/-- A row of the call's own, sorted by the library. -/
theorem sort_min {P : Program} {f g e n : Nat} {cap : Option Nat} {α : Type} [Inhabited α] (enc : α → List Value) (lt : α → α → Bool) (xs : List α) (he : 0 < e) (hk : ∀ x, (enc x).length = e) (h1 : ∀ x, ∀ v ∈ enc x, v.oneCell' = true)
    (hent : enterable P f = true) (hpos : 0 < xs.length) (hn : n = xs.length)
    (hcon : ∀ (blk off cp : Nat) (w : World), HoldsK enc e w blk off xs.toArray → blk < w.heap.size → Calls P f #[.slice (some ⟨blk, off, none⟩) xs.toArray.size cp, .func (.func g) #[] #[]] w fun ex w' =>
      ex = .returned (.tuple #[]) ∧ ∃ d' m os, PermIn 0 xs.toArray.size xs.toArray d' ∧ SortedIn lt 0 xs.toArray.size d' ∧ w' = sortWorldK enc e w blk off m d' os) :
    CallX P f [.c (.sl 0 0 e 0 n cap), .c (.fn g [])] [(0, .arr e (xs.map (encD enc)))]
      (fun sv objs' => sv = .tup [] ∧ ∃ ys : List α, ys.Perm xs ∧ ys.Pairwise (fun a b => lt b a = false) ∧ ∃ gs, objs' = (0, .arr e (ys.map (encD enc))) :: gs) := by
  subst hn
  refine ⟨hent, fun c w vals hr hl hv => ?_⟩
  obtain ⟨u, k1, _, _, hx⟩ := hv 0 _ rfl
  obtain ⟨u', k1', vs, rfl, hvs, _⟩ := hv 1 _ rfl
  obtain rfl : vs = #[] := Array.eq_empty_of_size_eq_zero hvs
  obtain ⟨a, cp, rfl, hle, _, hb⟩ := hx ⟨_, rfl, by simp⟩
  obtain ⟨b, base, cs, T, hφ, rfl, hheap, hsz⟩ := hb (by omega)
  rcases hr.ob 0 0 _ rfl with ⟨hnone, _⟩ | ⟨b', base', cs', T', q1, q2, q3, q4, q5⟩
  · rw [hφ] at hnone; cases hnone
  rw [hφ] at q1
  obtain ⟨rfl, rfl⟩ : b = b' ∧ base = base' := by simpa using q1
  rw [hheap] at q2
  obtain ⟨rfl, rfl⟩ : cs = cs' ∧ T = T' := by simpa using q2
  have hvals : vals = #[.slice (some ⟨b, base + 0 * e, none⟩) xs.length cp, .func (.func g) #[] #[]] := by
    apply Array.ext_getElem?
    intro i
    match i with
    | 0 => exact k1
    | 1 => exact k1'
    | i + 2 => rw [Array.getElem?_eq_none (by rw [hl]; simp), Array.getElem?_eq_none (by simp)]
  subst hvals
  have hlt : b < w.heap.size := (Array.getElem?_eq_some_iff.1 hheap).1
  have hH : HoldsK enc e w b (base + 0 * e) xs.toArray := by
    intro t ht
    have ht : t < xs.length * e := by simpa [flatK] using ht
    have hi : t / e < xs.length := (Nat.div_lt_iff_lt_mul he).2 ht
    have hj : t % e < e := Nat.mod_lt _ he
    have hte : t / e * e + t % e = t := Nat.div_add_mod' t e
    obtain ⟨u, m1, m2⟩ := q5 (t / e) (t % e) _ (encD_at hk hi hj)
    obtain rfl := Rep.v_inv m2
    constructor
    · rw [cell_of hheap]
      have hf := flat_get enc xs.toArray (i := t / e) (by simpa using hi) hj
      rw [hte] at hf m1
      rw [show (id (flatK enc e xs.toArray)[t]! : Value) = (enc xs.toArray[t / e]!)[t % e]! from hf, ← m1]
      congr 1; omega
    · unfold World.frozen?
      rw [hheap]; simp
  refine (hcon b (base + 0 * e) cp w hH hlt).mono ?_
  rintro ex w' ⟨rfl, d', m, os, ⟨hp1, hp2, hp3⟩, hs, rfl⟩
  have hd : d'.size = xs.length := by simpa using hp1
  have hw1 : (putRowK enc e (Go.Sort.ahead w m) b (base + 0 * e) d').heap[b]? = some (.cells (putCells id (base + 0 * e) (flatK enc e d') cs) T (0, 0)) := by
    show (w.heap.modify b (onCells (putCells id (base + 0 * e) (flatK enc e d'))))[b]? = _
    rw [Array.getElem?_modify, if_pos rfl, hheap]; rfl
  have hpsz : (putCells id (base + 0 * e) (flatK enc e d') cs).size = cs.size := by simp [putCells]
  have hW := write_gen (w' := putRowK enc e (Go.Sort.ahead w m) b (base + 0 * e) d') (bd' := .arr e (d'.toList.map (encD enc))) hr (o := 0) (ver := 0) (b := b) rfl rfl rfl (c.has_of hφ) (by simp [putRowK, Go.Sort.putRow, mapBlock, Go.Sort.ahead]) rfl rfl rfl
    (fun k hk => by
      show (w.heap.modify b _)[k]? = _
      rw [Array.getElem?_modify, if_neg (Ne.symm hk)])
    (fun ks U hU => by
      rw [hheap] at hU
      obtain ⟨rfl, rfl⟩ : cs = ks ∧ T = U := by simpa using hU
      exact ⟨_, hw1, hpsz⟩)
    (fun hE => by
      refine .inr ⟨b, base, _, T, hφ, hw1, by rw [hpsz]; simpa [hd] using q3, fun x hx => ?_, fun i j d hij => ?_⟩
      · obtain ⟨y, _, rfl⟩ := List.mem_map.1 hx
        simp [encD, hk]
      · obtain ⟨hi, hj, rfl⟩ := encD_get hk hij
        have hi' : i < d'.size := by simpa using hi
        have hlt2 : i * e + j < xs.length * e := by
          have : (i + 1) * e ≤ xs.length * e := Nat.mul_le_mul_right _ (by omega)
          rw [Nat.succ_mul] at this; omega
        have q3' : base + xs.length * e ≤ cs.size := by simpa using q3
        refine ⟨_, ?_, .v _ (h1 (d'.toList.toArray[i]!) _ ?_)⟩
        · have hfs : (flatK enc e d').size = xs.length * e := by simp [flatK, hd]
          simp only [putCells, Array.getElem?_mapIdx]
          rw [Array.getElem?_eq_getElem (by omega), Option.map_some, if_pos ⟨by omega, by rw [hfs]; omega⟩, show base + (i * e + j) - (base + 0 * e) = i * e + j by omega, flat_get enc d' hi' hj]
          simp
        · have hjl : j < (enc (d'.toList.toArray[i]!)).length := by rw [hk]; exact hj
          rw [getElem!_pos (enc (d'.toList.toArray[i]!)) j hjl]
          exact List.getElem_mem _)
  have hG := grow_ok (w' := sortWorldK enc e w b (base + 0 * e) m d' os) os hW.2 rfl rfl rfl rfl
  refine ⟨_, c, [(0, .arr e (d'.toList.map (encD enc)))], .tup [], rfl, hW.1.trans hG.1 (Nat.le_refl _), hG.2, ⟨#[], rfl, rfl, by simp⟩, rfl, d'.toList, ?_, ?_, [], rfl⟩
  · have : d'.extract 0 xs.toArray.size = d' := by rw [show xs.toArray.size = d'.size by simp [hd]]; simp
    rw [this] at hp3
    simpa using hp3
  · rw [List.pairwise_iff_getElem]
    intro i j hi hj hij
    have hj' : j < d'.size := by simpa using hj
    have hi' : i < d'.size := by omega
    have := hs i j (Nat.zero_le _) hij (by simp; omega)
    rw [getElem!_pos d' j hj', getElem!_pos d' i hi'] at this
    simpa using this

end Go.Proofs.Ytmjaefnmianfpaa

namespace Go.Proofs.Ytmjaefnmianfpaa
open Go Go.RowKit Go.Shelf Go.Sort Go.Lib
set_option maxRecDepth 10000

def sortSq_ren : Go.Shelf.Ren := ⟨fun | 6 => 125 | 15 => 148 | 14 => 147 | 28 => 170 | 29 => 171 | 20 => 162 | 21 => 163 | 22 => 164 | 23 => 165 | 24 => 166 | 25 => 167 | 26 => 168 | 27 => 169 | 46 => 175 | 47 => 176 | 48 => 177 | 49 => 178 | 50 => 179 | 57 => 181 | n => n, fun | 22 => 33 | 24 => 118 | 25 => 126 | 3 => 3 | 39 => 137 | 0 => 0 | 53 => 153 | 55 => 155 | 4 => 4 | 46 => 147 | 45 => 146 | 50 => 25 | 5 => 5 | 9 => 9 | 66 => 159 | 70 => 163 | 76 => 165 | 77 => 166 | n => n, fun | n => n⟩
theorem sortSq : Go.Proofs.SlLaysF0.n6 Try.prog sortSq_ren := {
  mixed := by kernel_rfl,
  f6 := ⟨Try.f125.name, by decide, Try.func125.trans (congrArg some (by kernel_rfl))⟩,
  f14 := ⟨Try.f147.name, by decide, Try.func147.trans (congrArg some (by kernel_rfl))⟩,
  f15 := Try.func148.trans (congrArg some (by kernel_rfl)),
  f20 := ⟨Try.f162.name, by decide, Try.func162.trans (congrArg some (by kernel_rfl))⟩,
  f21 := ⟨Try.f163.name, by decide, Try.func163.trans (congrArg some (by kernel_rfl))⟩,
  f22 := ⟨Try.f164.name, by decide, Try.func164.trans (congrArg some (by kernel_rfl))⟩,
  f23 := ⟨Try.f165.name, by decide, Try.func165.trans (congrArg some (by kernel_rfl))⟩,
  f24 := ⟨Try.f166.name, by decide, Try.func166.trans (congrArg some (by kernel_rfl))⟩,
  f25 := ⟨Try.f167.name, by decide, Try.func167.trans (congrArg some (by kernel_rfl))⟩,
  f26 := ⟨Try.f168.name, by decide, Try.func168.trans (congrArg some (by kernel_rfl))⟩,
  f27 := ⟨Try.f169.name, by decide, Try.func169.trans (congrArg some (by kernel_rfl))⟩,
  f28 := Try.func170.trans (congrArg some (by kernel_rfl)),
  f29 := Try.func171.trans (congrArg some (by kernel_rfl)),
  f46 := ⟨Try.f175.name, by decide, Try.func175.trans (congrArg some (by kernel_rfl))⟩,
  f47 := Try.func176.trans (congrArg some (by kernel_rfl)),
  f48 := Try.func177.trans (congrArg some (by kernel_rfl)),
  f49 := ⟨Try.f178.name, by decide, Try.func178.trans (congrArg some (by kernel_rfl))⟩,
  f50 := ⟨Try.f179.name, by decide, Try.func179.trans (congrArg some (by kernel_rfl))⟩,
  f57 := ⟨Try.f181.name, by decide, Try.func181.trans (congrArg some (by kernel_rfl))⟩,
  t0 := Try.underlying0,
  a0 := Try.isAgg0,
  z0 := Try.sizeOf0,
  v0 := Try.zeroValue0,
  t3 := Try.underlying3,
  a3 := Try.isAgg3,
  z3 := Try.sizeOf3,
  v3 := Try.zeroValue3,
  t4 := Try.underlying4,
  a4 := Try.isAgg4,
  z4 := Try.sizeOf4,
  v4 := Try.zeroValue4,
  t5 := Try.underlying5,
  a5 := Try.isAgg5,
  z5 := Try.sizeOf5,
  v5 := Try.zeroValue5,
  t9 := Try.underlying9,
  a9 := Try.isAgg9,
  z9 := Try.sizeOf9,
  v9 := Try.zeroValue9,
  t22 := Try.underlying33,
  a22 := Try.isAgg33,
  z22 := Try.sizeOf33,
  v22 := Try.zeroValue33,
  t25 := Try.underlying126,
  a25 := Try.isAgg126,
  z25 := Try.sizeOf126,
  v25 := Try.zeroValue126,
  t39 := Try.underlying137,
  a39 := Try.isAgg137,
  z39 := Try.sizeOf137,
  v39 := Try.zeroValue137,
  t45 := Try.underlying146,
  a45 := Try.isAgg146,
  z45 := Try.sizeOf146,
  v45 := Try.zeroValue146,
  t46 := Try.underlying147,
  a46 := Try.isAgg147,
  z46 := Try.sizeOf147,
  v46 := Try.zeroValue147,
  t50 := Try.underlying25,
  a50 := Try.isAgg25,
  z50 := Try.sizeOf25,
  v50 := Try.zeroValue25,
  t53 := Try.underlying153,
  a53 := Try.isAgg153,
  z53 := Try.sizeOf153,
  v53 := Try.zeroValue153,
  t55 := Try.underlying155,
  a55 := Try.isAgg155,
  z55 := Try.sizeOf155,
  v55 := Try.zeroValue155,
  t66 := Try.underlying159,
  a66 := Try.isAgg159,
  z66 := Try.sizeOf159,
  v66 := Try.zeroValue159,
  t70 := Try.underlying163,
  a70 := Try.isAgg163,
  z70 := Try.sizeOf163,
  v70 := Try.zeroValue163,
  t76 := Try.underlying165,
  a76 := Try.isAgg165,
  z76 := Try.sizeOf165,
  v76 := Try.zeroValue165,
  t77 := Try.underlying166,
  a77 := Try.isAgg166,
  z77 := Try.sizeOf166,
  v77 := Try.zeroValue166 }


/-- A square of numbers that are not too great. -/
@[reducible] def okSq (a : Int × Int × Int) : Prop := (-1000000 ≤ a.1 ∧ a.1 ≤ 1000000) ∧ (-1000000 ≤ a.2.1 ∧ a.2.1 ≤ 1000000) ∧ (-9223372036854775808 ≤ a.2.2 ∧ a.2.2 ≤ 9223372036854775807)

abbrev Sq := { a : Int × Int × Int // okSq a }

instance : Inhabited Sq := ⟨⟨(0, 0, 0), by decide⟩⟩

def encSq (a : Sq) : List Value := [.int .i64 a.1.1, .int .i64 a.1.2.1, .int .i64 a.1.2.2]

theorem encSq_len (a : Sq) : (encSq a).length = 3 := rfl

theorem encSq_one (a : Sq) : ∀ v ∈ encSq a, v.oneCell' = true := by
  intro v hv
  simp [encSq] at hv
  rcases hv with rfl | rfl | rfl <;> rfl

theorem encD_sq (a : Sq) : encD encSq a = r3 a.1 := rfl

theorem wrap_okx {a b : Sq} : IntKind.i64.wrap (a.1.1 - b.1.1) = a.1.1 - b.1.1 := by
  obtain ⟨h1, h2, h3⟩ := a.2
  obtain ⟨g1, g2, g3⟩ := b.2
  exact wrap_i64 _ (by omega) (by omega)

theorem wrap_oky {a b : Sq} : IntKind.i64.wrap (a.1.2.1 - b.1.2.1) = a.1.2.1 - b.1.2.1 := by
  obtain ⟨h1, h2, h3⟩ := a.2
  obtain ⟨g1, g2, g3⟩ := b.2
  exact wrap_i64 _ (by omega) (by omega)

/-- What the order by X, then by Y gives. -/
def cfXY (a b : Sq) : Int := if a.1.1 = b.1.1 then a.1.2.1 - b.1.2.1 else a.1.1 - b.1.1

set_option maxHeartbeats 1000000 in
theorem fillCmp (x y : Sq) (W : World) : Calls Try.prog 126 #[.agg #[.int .i64 x.1.1, .int .i64 x.1.2.1, .int .i64 x.1.2.2], .agg #[.int .i64 y.1.1, .int .i64 y.1.2.1, .int .i64 y.1.2.2]] W fun e w' => e = .returned (.int .i64 (cfXY x y)) ∧ ∃ q os', w' = grow (W.drewN q) os' := by
  have hx := wrap_okx (a := x) (b := y)
  have hy := wrap_oky (a := x) (b := y)
  obtain ⟨⟨x1, x2, x3⟩, hx0⟩ := x
  obtain ⟨⟨y1, y2, y3⟩, hy0⟩ := y
  unfold cfXY
  dsimp only at hx hy ⊢
  obtain ⟨r, hr⟩ : ∃ r, r = (if x1 = y1 then x2 - y2 else x1 - y1) := ⟨_, rfl⟩
  rw [← hr]
  have hr1 : x1 = y1 → x2 - y2 = r := fun h => by rw [hr, if_pos h]
  have hr2 : x1 ≠ y1 → x1 - y1 = r := fun h => by rw [hr, if_neg h]
  clear hr
  go_enter Try.func126, Try.ntmps126
  go_wp2
  all_goals
    go_ret
    refine ⟨?_, 0, _, by rw [alloc_eq_grow, alloc_eq_grow, grow_grow]; rfl⟩
    rename_i hc
    first
      | exact congrArg (fun z => Ending.returned (Value.int .i64 z)) (hr1 (by simpa using hc))
      | exact congrArg (fun z => Ending.returned (Value.int .i64 z)) (hr2 (by simpa using hc))

theorem ltOf_XY (a b : Sq) : ltOf cfXY a b = ltXY a.1 b.1 := by
  unfold ltOf cfXY ltXY
  by_cases h : a.1.1 = b.1.1
  · rw [if_pos h]
    simp only [h, Int.lt_irrefl, decide_false, Bool.false_or, beq_self_eq_true, Bool.true_and]
    congr 1
    apply propext
    omega
  · rw [if_neg h]
    have : (a.1.1 == b.1.1) = false := by simpa using h
    rw [this, Bool.false_and, Bool.or_false]
    congr 1
    apply propext
    omega

theorem swoXY : SWO (ltOf cfXY) where
  irrefl x := by rw [ltOf_XY]; simp [ltXY]
  trans x y z h1 h2 := by rw [ltOf_XY] at *; exact ltXY_trans _ _ _ h1 h2
  ntrans x y z h1 h2 := by rw [ltOf_XY] at *; exact ltXY_ntrans _ _ _ h1 h2

theorem enterable_of {P : Program} {f : FuncId} {fn : Func} {cd : Code} (hf : P.funcs[f]? = some fn) (hb : fn.body = some cd) (hname : (fn.name != "runtime.NumGoroutine") = true) : enterable P f = true := by
  unfold enterable; rw [hf]; simp only [hb, hname]; rfl

/-- Squares with numbers that are not too great, as elements. -/
def asSq (l : List (Int × Int × Int)) (h : ∀ x ∈ l, okSq x) : List Sq := l.attach.map fun x => ⟨x.1, h x.1 x.2⟩

theorem asSq_val (l : List (Int × Int × Int)) (h : ∀ x ∈ l, okSq x) : (asSq l h).map (·.1) = l := by
  unfold asSq
  rw [List.map_map]
  exact List.attach_map_subtype_val l

theorem asSq_r3 (l : List (Int × Int × Int)) (h : ∀ x ∈ l, okSq x) : (asSq l h).map (encD encSq) = l.map r3 := by
  conv => rhs; rw [← asSq_val l h, List.map_map]
  rfl

/-- Squares put in order by X, then by Y, by the library. -/
theorem sortXY_min (l : List (Int × Int × Int)) (hok : ∀ x ∈ l, okSq x) (hpos : 0 < l.length) (hlen : l.length ≤ 2 ^ 40) (n : Nat) (cap : Option Nat) (hn : n = l.length) :
    CallX G.P 125 [.c (.sl 0 0 3 0 n cap), .c (.fn 126 [])] [(0, .arr 3 (l.map r3))]
      (fun sv objs' => sv = .tup [] ∧ ∃ ys : List (Int × Int × Int), ys.Perm l ∧ Asc ltXY ys ∧ ∃ gs, objs' = (0, .arr 3 (ys.map r3)) :: gs) := by
  have hL : (asSq l hok).length = l.length := by simp [asSq]
  have hmin := sort_min (P := G.P) (f := 125) (g := 126) (e := 3) (n := n) (cap := cap) encSq (ltOf cfXY) (asSq l hok) (by decide) encSq_len encSq_one
    (enterable_of Try.func125 rfl (by decide)) (by omega) (by omega) ?_
  · rw [asSq_r3] at hmin
    refine hmin.imp fun sv objs' h => ?_
    obtain ⟨h1, ys, h2, h3, gs, h4⟩ := h
    refine ⟨h1, ys.map (·.1), ?_, ?_, gs, ?_⟩
    · have := h2.map (·.1)
      rwa [asSq_val] at this
    · rw [Asc, List.pairwise_map]
      exact h3.imp fun {a b} h => by rw [ltOf_XY] at h; exact h
    · rw [h4, List.map_map]; rfl
  · intro blk off cp w hH hb
    have eg : ∀ args w, (callFunc 126 args).run Try.prog w = .ok (.enter 126 args) w := enters_of Try.func126 (by kernel_rfl) rfl
    have hsz : (asSq l hok).toArray.size < 4611686018427387904 := by
      rw [List.size_toArray, hL]; omega
    have hcon := AnyQ.slices_SortFunc sortSq 3 Try.isAgg118 Try.sizeOf118 encSq encSq_len encSq_one cfXY swoXY 126 #[] blk off cp (asSq l hok).toArray w eg
      (fun _ _ _ _ x y => fillCmp x y _) hH hb hsz
    exact hcon

end Go.Proofs.Ytmjaefnmianfpaa

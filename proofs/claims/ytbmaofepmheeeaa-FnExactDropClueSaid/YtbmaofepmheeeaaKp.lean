/- What comes into a law, as data: a reading of memory gives data that the memory represents. -/
import Derived.Test.YtbmaofepmheeeaaKo
import Derived.ChangeArms
import Derived.WideShapes
import Derived.DataReads
import Derived.ChangeOld
namespace Go.Proofs.Ytbmaofepmheeeaa
open Go Go.RowKit

inductive Sh where
  | int (k : IntKind)
  | bool
  | str
  | slice (fs : List Sh)

inductive DCok : Sh → DC → Prop
  | int (k : IntKind) (n : Int) (h : (Lit.int k n).wf = true) : DCok (.int k) (.v (.int k n))
  | bool (b : Bool) : DCok .bool (.v (.bool b))
  | str (s : ByteArray) (h : s.size ≤ maxLen) : DCok .str (.v (.string s))
  | slice (fs : List Sh) (xs : List (List DC)) (hl : xs.length ≤ maxLen) (hx : ∀ x ∈ xs, x.length = fs.length)
      (h : ∀ (x : List DC) (j : Nat) (d : DC) (s : Sh), x ∈ xs → x[j]? = some d → fs[j]? = some s → DCok s d) : DCok (.slice fs) (.list fs.length xs)

def shFields (P : Program) (r : TypeId → Option (List Sh)) : List Field → Nat → Option (List Sh)
  | [], _ => some []
  | f :: fs, off =>
    match r f.type with
    | some a => if f.offset = off ∧ P.cellsOf f.type = a.length then (shFields P r fs (off + a.length)).map (a ++ ·) else none
    | none => none

/-- The cells of a type's values. -/
def shOf (P : Program) : Nat → TypeId → Option (List Sh)
  | 0, _ => none
  | n + 1, t =>
    match P.underlying t with
    | some .bool => some [.bool]
    | some (.int k) => some [.int k]
    | some .string => some [.str]
    | some (.slice e) =>
      match shOf P n e with
      | some fs => if P.cellsOf e = fs.length ∧ 0 < fs.length then some [.slice fs] else none
      | none => none
    | some (.struct fs) =>
      match shFields P (shOf P n) fs.toList 0 with
      | some sh => if P.cellsOf t = sh.length then some sh else none
      | none => none
    | _ => none

inductive Good (w : World) (R : Nat → Prop) : List Sh → List DC → List Value → Prop
  | nil : Good w R [] [] []
  | cons {s d v ss ds vs} (h : DCok s d) (h' : Rep w R d v) (hr : Good w R ss ds vs) : Good w R (s :: ss) (d :: ds) (v :: vs)

section
variable {w : World} {R : Nat → Prop}

theorem Good.append {a b : List Sh} {ds es : List DC} {us vs : List Value} (h : Good w R a ds us) (g : Good w R b es vs) : Good w R (a ++ b) (ds ++ es) (us ++ vs) := by
  induction h with
  | nil => exact g
  | cons h h' _ ih => exact .cons h h' ih

theorem Good.len {a : List Sh} {ds : List DC} {us : List Value} (h : Good w R a ds us) : ds.length = a.length ∧ us.length = a.length := by
  induction h with
  | nil => exact ⟨rfl, rfl⟩
  | cons _ _ _ ih => simp [ih.1, ih.2]

theorem Good.get {a : List Sh} {ds : List DC} {us : List Value} (h : Good w R a ds us) : ∀ (j : Nat) (d : DC), ds[j]? = some d → ∃ s u, a[j]? = some s ∧ us[j]? = some u ∧ DCok s d ∧ Rep w R d u := by
  induction h with
  | nil => intro j d hd; simp at hd
  | cons h h' _ ih =>
    intro j d hd
    cases j with
    | zero => obtain rfl : _ = d := by simpa using hd
              exact ⟨_, _, rfl, rfl, h, h'⟩
    | succ j => exact ih j d (by simpa using hd)

theorem list_of_all {α : Type} {p : Nat → α → Prop} : ∀ (n : Nat), (∀ i, i < n → ∃ x, p i x) → ∃ xs : List α, xs.length = n ∧ ∀ (i : Nat) x, xs[i]? = some x → p i x
  | 0, _ => ⟨[], rfl, by simp⟩
  | n + 1, h => by
    obtain ⟨xs, h1, h2⟩ := list_of_all n (fun i hi => h i (by omega))
    obtain ⟨x, hx⟩ := h n (by omega)
    refine ⟨xs ++ [x], by simp [h1], fun i y hy => ?_⟩
    by_cases hi : i < n
    · rw [List.getElem?_append_left (by omega)] at hy; exact h2 i y hy
    · rw [List.getElem?_append_right (by omega)] at hy
      by_cases h3 : i = n
      · subst h3
        obtain rfl : x = y := by simpa [h1] using hy
        exact hx
      · rw [List.getElem?_eq_none (by simp; omega)] at hy; cases hy

variable {H : Type} {enc : TypeId × Value → H} {P : Program} {base : Nat} {spare : Nat → Bool} {held : Bool}

theorem good_fields {r : TypeId → Option (List Sh)} {cs : List Value} : ∀ (fs : List Field) (off : Nat) (sh : List Sh), shFields P r fs off = some sh →
    (∀ f ∈ fs, ∀ a, r f.type = some a → ∃ ds, Good w R a ds ((cs.drop f.offset).take (P.cellsOf f.type))) → ∃ ds, Good w R sh ds ((cs.drop off).take sh.length)
  | [], off, sh, h, _ => by
    obtain rfl : [] = sh := by simpa [shFields] using h
    exact ⟨[], by simpa using Good.nil⟩
  | f :: fs, off, sh, h, hf => by
    unfold shFields at h
    split at h
    · rename_i a ha
      split at h
      · rename_i hc
        simp only [Option.map_eq_some_iff] at h
        obtain ⟨sh', h1, rfl⟩ := h
        obtain ⟨ds, h2⟩ := hf f (by simp) a ha
        obtain ⟨es, h3⟩ := good_fields fs (off + a.length) sh' h1 (fun g hg b hb => hf g (by simp [hg]) b hb)
        rw [hc.1, hc.2] at h2
        refine ⟨ds ++ es, ?_⟩
        rw [List.length_append, List.take_add, List.drop_drop]
        exact h2.append h3
      · cases h
    · cases h

theorem good_of_trod : ∀ (n : Nat) {t : TypeId} {sh : List Sh} {m : Nat} {cs : List Value} {y : DataW H × List MemPlace}, shOf P n t = some sh → DataW.trod enc P w base spare held m t cs = some y →
    ∃ ds, Good w (· < w.heap.size) sh ds cs
  | 0, _, _, _, _, _, h, _ => by cases h
  | n + 1, t, sh, m, cs, y, h, ht => by
    unfold shOf at h
    split at h
    · rename_i hu
      obtain rfl : [Sh.bool] = sh := by simpa using h
      obtain ⟨b, rfl, _⟩ := DataW.trod_bool hu ht
      exact ⟨[.v (.bool b)], .cons (.bool b) (.v _ rfl) .nil⟩
    · rename_i k hu
      obtain rfl : [Sh.int k] = sh := by simpa using h
      obtain ⟨b, rfl, _, hw⟩ := DataW.trod_int hu ht
      exact ⟨[.v (.int k b)], .cons (.int k b hw) (.v _ rfl) .nil⟩
    · rename_i hu
      obtain rfl : [Sh.str] = sh := by simpa using h
      obtain ⟨b, rfl, _, hw⟩ := DataW.trod_string hu ht
      exact ⟨[.v (.string b)], .cons (.str b hw) (.v _ rfl) .nil⟩
    · rename_i e hu
      split at h
      · rename_i fs hfs
        split at h
        · rename_i hc
          obtain rfl : [Sh.slice fs] = sh := by simpa using h
          rcases DataW.trod_slice hu ht with ⟨rfl, _⟩ | ⟨a, len, cap, elems, rest, k, rfl, rfl, _, _, hlc, hcm, hlen, hel, _, _⟩
          · exact ⟨[.list fs.length []], .cons (.slice fs [] (by simp) (by simp) (by simp)) (.list _ [] none 0 (fun _ _ => undef) (Nat.le_refl _) (by simp) (by simp) (by simp)) .nil⟩
          · obtain ⟨xs, hxl, hxs⟩ := list_of_all (p := fun i ds => ∃ vs, w.cells? base (a.add (i * P.cellsOf e)) (P.cellsOf e) = some vs ∧ Good w (· < w.heap.size) fs ds vs) len (fun i hi => by
              have h1 := hel i hi
              rw [List.getElem?_eq_getElem (by omega)] at h1
              obtain ⟨vs, h2, h3⟩ := Option.bind_eq_some_iff.1 h1
              obtain ⟨ds, h4⟩ := good_of_trod n hfs h3
              exact ⟨ds, vs, h2, h4⟩)
            subst hxl
            have hlens : ∀ x ∈ xs, x.length = fs.length := by
              intro x hx
              obtain ⟨i, hi⟩ := List.getElem?_of_mem hx
              obtain ⟨vs, _, h2⟩ := hxs i x hi
              exact h2.len.1
            refine ⟨[.list fs.length xs], .cons (.slice fs xs (by omega) hlens ?_) ?_ .nil⟩
            · intro x j d s hx hd hs
              obtain ⟨i, hi⟩ := List.getElem?_of_mem hx
              obtain ⟨vs, _, h2⟩ := hxs i x hi
              obtain ⟨s', u, k1, _, k3, _⟩ := h2.get j d hd
              rw [k1] at hs
              cases hs
              exact k3
            · have hcell : ∀ (i j : Nat) x, xs[i]? = some x → j < fs.length → ∃ u, w.cell? ((a.add (i * P.cellsOf e)).add j) = some u ∧ ∀ d, x[j]? = some d → Rep w (· < w.heap.size) d u := by
                intro i j x hx hj
                obtain ⟨vs, h1, h2⟩ := hxs i x hx
                obtain ⟨_, h3, h4⟩ := World.cells?_some h1
                have h5 := h4 j (by omega)
                rw [List.getElem?_eq_getElem (by omega)] at h5
                refine ⟨_, h5, fun d hd => ?_⟩
                obtain ⟨s, u, _, k2, _, k4⟩ := h2.get j d hd
                rw [List.getElem?_eq_getElem (by omega)] at k2
                cases k2
                exact k4
              have hspot : 0 < xs.length → a.spot = none ∧ a.block < w.heap.size := by
                intro h0
                obtain ⟨u, h1, _⟩ := hcell 0 0 xs[0] (List.getElem?_eq_getElem h0) hc.2
                simp only [Nat.zero_mul, Addr.add, if_true] at h1
                unfold World.cell? at h1
                split at h1
                · rename_i hb
                  split at h1
                  · cases h1
                  · rename_i hsp
                    exact ⟨by simpa using hsp, (Array.getElem?_eq_some_iff.1 hb).1⟩
                · cases h1
              have hadd : 0 < xs.length → ∀ i j, (a.add (i * P.cellsOf e)).add j = ⟨a.block, a.off + (i * fs.length + j), none⟩ := by
                intro h0 i j
                have := (hspot h0).1
                rw [hc.1]
                obtain ⟨b, o, sp⟩ := a
                simp only at this
                subst this
                unfold Addr.add
                by_cases h1 : i * fs.length = 0 <;> by_cases h2 : j = 0 <;> simp_all [Nat.add_assoc]
              refine .list _ xs (some a) cap (fun i j => (w.cell? ⟨a.block, a.off + (i * fs.length + j), none⟩).getD undef) hlc hlens ?_ ?_
              · intro i j hi hj
                obtain ⟨u, h1, _⟩ := hcell i j _ (List.getElem?_eq_getElem hi) hj
                have h0 : 0 < xs.length := by omega
                rw [hadd h0] at h1
                refine ⟨a.block, a.off, ?_, (hspot h0).2, by rw [h1]; rfl⟩
                have := (hspot h0).1
                obtain ⟨b, o, sp⟩ := a
                simp only at this
                rw [this]
              · intro i j d hd
                obtain ⟨x, hx, hj⟩ := Option.bind_eq_some_iff.1 hd
                have hi : i < xs.length := (List.getElem?_eq_some_iff.1 hx).1
                have hj' : j < fs.length := by
                  rw [← hlens x (List.mem_of_getElem? hx)]; exact (List.getElem?_eq_some_iff.1 hj).1
                obtain ⟨u, h1, h2⟩ := hcell i j x hx hj'
                rw [hadd (by omega)] at h1
                rw [h1]
                exact h2 d hj
        · cases h
      · cases h
    · rename_i fs hu
      split at h
      · rename_i sh' hsh
        split at h
        · rename_i hc
          obtain rfl : sh' = sh := by simpa using h
          obtain ⟨xs, k, rfl, _, hl, hxl, hf⟩ := DataW.trod_struct hu ht
          obtain ⟨ds, hg⟩ := good_fields (cs := cs) (w := w) (R := (· < w.heap.size)) fs.toList 0 sh' hsh (fun f hf' a ha => by
            obtain ⟨i, hi⟩ := List.getElem?_of_mem hf'
            have hi' : fs[i]? = some f := by simpa using hi
            have h1 := hf i f hi'
            rw [List.getElem?_eq_getElem (by rw [hxl]; exact (Array.getElem?_eq_some_iff.1 hi').1)] at h1
            exact good_of_trod n ha h1)
          refine ⟨ds, ?_⟩
          rwa [List.drop_zero, List.take_of_length_le (by omega)] at hg
        · cases h
      · cases h
    · cases h

/-- A struct that comes in. -/
theorem agg_of_trod {n : Nat} {t : TypeId} {sh : List Sh} {fs : Array Field} {r : Reach} {b0 : Nat} {v : Value} {d : DataW H} {p : List MemPlace} (hu : P.underlying t = some (.struct fs)) (hs : shOf P n t = some sh)
    (hv : Value.okWide P w r b0 t v) (h : DataW.Trod enc P w base spare held t v d p) : ∃ ds, RepDV w (· < w.heap.size) (.agg ds) v ∧ ∃ us, Good w (· < w.heap.size) sh ds us := by
  obtain ⟨cs, rfl, _⟩ := WideShapes.okWide_struct hu hv
  obtain ⟨m, hm⟩ := h
  obtain ⟨ds, hg⟩ := good_of_trod n hs hm
  have hl := hg.len
  simp only [Value.cells] at hg hl
  refine ⟨ds, ⟨cs, rfl, by have := hl.2; simp at this; omega, fun i x hx => ?_⟩, _, hg⟩
  obtain ⟨s, u, _, h2, _, h4⟩ := hg.get i x hx
  exact ⟨u, by simpa using h2, h4⟩

/-- A slice that comes in. -/
theorem slice_of_trod {n : Nat} {t e : TypeId} {s : Sh} {r : Reach} {b0 : Nat} {v : Value} {d : DataW H} {p : List MemPlace} (hu : P.underlying t = some (.slice e)) (hs : shOf P n t = some [s])
    (hv : Value.okWide P w r b0 t v) (h : DataW.Trod enc P w base spare held t v d p) : ∃ x, RepDV w (· < w.heap.size) (.c x) v ∧ DCok s x := by
  obtain ⟨a, len, cap, rfl⟩ := WideShapes.okWide_slice hu hv
  obtain ⟨m, hm⟩ := h
  obtain ⟨ds, hg⟩ := good_of_trod n hs hm
  simp only [Value.cells] at hg
  cases hg with
  | cons h1 h2 h3 => cases h3; exact ⟨_, h2, h1⟩

end

end Go.Proofs.Ytbmaofepmheeeaa

/- Rows of numbers: the least one, and where a number stands. -/
import Derived.Test.YtbmaofepmheeeaaKs
import Derived.Test.YtbmaofepmheeeaaT
namespace Go.Proofs.Ytbmaofepmheeeaa
open Go Go.RowKit
set_option maxRecDepth 10000
set_option linter.unusedSimpArgs false

/-- Rows of one number. -/
def r1 (x : Int) : List DC := [dI x]

theorem r1_get {l : List Int} {i : Nat} {x : List DC} (h : (l.map r1)[i]? = some x) : ∃ k, l[i]? = some k ∧ x = [dI k] := by
  simp only [List.getElem?_map, Option.map_eq_some_iff] at h
  obtain ⟨k, h1, rfl⟩ := h
  exact ⟨k, h1, rfl⟩

theorem r1_flat {l : List Int} : ∀ y ∈ l.map r1, ∀ d ∈ y, flatDC d := by
  intro y hy d hd
  obtain ⟨x, _, rfl⟩ := List.mem_map.1 hy
  simp only [r1, List.mem_cons, List.not_mem_nil, or_false] at hd
  subst hd; trivial

def minL : List Int → Int
  | [] => 0
  | a :: r => r.foldl (fun m e => if e < m then e else m) a

theorem minL_step (a : Int) (l : List Int) (i : Nat) (e : Int) (h : (a :: l)[i + 1]? = some e) : minL ((a :: l).take (i + 2)) = if e < minL ((a :: l).take (i + 1)) then e else minL ((a :: l).take (i + 1)) := by
  have h' : l[i]? = some e := by simpa using h
  rw [List.take_succ_cons, List.take_succ_cons]
  simp only [minL]
  rw [List.take_add_one, h', Option.toList_some, List.foldl_append]
  rfl

theorem minInts_ok (a : Int) (l : List Int) (hn : (a :: l).length ≤ 2 ^ 40) : Fn G.P 111 [.c (.list 1 ((a :: l).map r1))] (.one (aI (minL (a :: l)))) := by
  refine fn_of_body (G := G) Try.func111 rfl (by decide) (Nat.le_of_ble_eq_true rfl) ?_
  conv => whnf
  repeat' first
    | (refine draw_mk (by kernel_rfl) ?_; conv => whnf)
    | (refine Br.mk (fun hb => ?_) (fun hb => ?_) <;> conv => whnf)
    | (refine El.mk (fun el hel => ?_); obtain ⟨k, hk, rfl⟩ := r1_get hel; conv => whnf)
    | (refine And.intro ?_ ?_; (focus (first | decide | omega | (simp at *; omega) | (simp_all; done))); conv => whnf)
  have hk0 : k = a := by simpa using hk.symm
  subst hk0
  clear hk hel
  refine .inl ⟨Nat, fun i => (k :: l).length - i, fun i => 1 ≤ i ∧ i ≤ (k :: l).length, fun i => ⟨[(0, .one (.c (.d (.list 1 ((k :: l).map r1))))), (3, .one (.c (vI (minL ((k :: l).take i))))), (4, .one (.c (vI i)))],
    [], _⟩, 1, ⟨Nat.le_refl _, by simp⟩, weak_of rfl ?_ rfl (Nat.zero_le _), fun i hi => ?_⟩
  · (repeat' first | exact rfl | exact trivial | apply And.intro | (simp [getE]; done))
  obtain ⟨hi1, hi2⟩ := hi
  conv => whnf
  repeat' first
    | (refine draw_mk (by kernel_rfl) ?_; conv => whnf)
    | (refine Br.mk (fun hb => ?_) (fun hb => ?_) <;> conv => whnf)
    | (refine El.mk (fun el hel => ?_); obtain ⟨e, hk, rfl⟩ := r1_get hel; conv => whnf)
    | (refine And.intro ?_ ?_; (focus (first | decide | omega | (simp at *; omega) | (simp_all; done))); conv => whnf)
  · have hk' : (k :: l)[i]? = some e := by simpa using hk
    have hil := (List.getElem?_eq_some_iff.1 hk').1
    obtain ⟨j, rfl⟩ : ∃ j, i = j + 1 := ⟨i - 1, by omega⟩
    refine ⟨j + 2, ⟨by omega, by omega⟩, by show (k :: l).length - (j + 2) < (k :: l).length - (j + 1); omega, weak_of rfl ?_ rfl (Nat.zero_le _)⟩
    have hw := wrap_len (n := j + 2) (by omega)
    have := minL_step k l j e hk'
    simp only [envOK, getE]
    refine ⟨by simp, ?_, ?_, trivial⟩
    · rw [this]; simp
    · simp
      have h2 : ((j : Int) + 1 + 1) = ((j + 2 : Nat) : Int) := by omega
      rw [h2]; exact hw
  · simp at hb
    have : (k :: l).take i = k :: l := List.take_of_length_le (by simp; omega)
    rw [this]
    exact ⟨⟨rfl, trivial⟩, by simp [refVs, refCV]⟩

def idxL (l : List Int) (v : Int) : Int := match l.findIdx? (· == v) with
  | some i => i
  | none => -1

theorem indexInts_ok (l : List Int) (v : Int) (hn : l.length ≤ 2 ^ 40) : Fn G.P 112 [.c (.list 1 (l.map r1)), aI v] (.one (aI (idxL l v))) := by
  refine fn_of_body (G := G) Try.func112 rfl (by decide) (Nat.le_of_ble_eq_true rfl) ?_
  conv => whnf
  refine .inl ⟨Nat, fun i => l.length - i, fun i => i ≤ l.length ∧ (l.take i).all (fun e => !(e == v)) = true, fun i => ⟨[(0, .one (.c (.d (.list 1 (l.map r1))))), (1, .one (.c (vI v))), (6, .one (.c (.d (.list 1 (l.map r1))))), (7, .one (.c (vI (l.map r1).length))), (8, .one (.c (vI i)))],
    [], _⟩, 0, ⟨Nat.zero_le _, rfl⟩, weak_of rfl ?_ rfl (Nat.zero_le _), fun i hi => ?_⟩
  · (repeat' first | exact rfl | exact trivial | apply And.intro | (simp [getE]; done))
  obtain ⟨hi1, hi2⟩ := hi
  conv => whnf
  repeat' first
    | (refine draw_mk (by kernel_rfl) ?_; conv => whnf)
    | (refine Br.mk (fun hb => ?_) (fun hb => ?_) <;> conv => whnf)
    | (refine El.mk (fun el hel => ?_); obtain ⟨e, hk, rfl⟩ := r1_get hel; conv => whnf)
    | (refine And.intro ?_ ?_; (focus (first | decide | omega | (simp at *; omega) | (simp_all; done))); conv => whnf)
  · have hk' : l[i]? = some e := by simpa using hk
    have hv : v = e := by simpa using hb
    have : l.findIdx? (· == v) = some i := by
      obtain ⟨hl, he⟩ := List.getElem?_eq_some_iff.1 hk'
      rw [List.findIdx?_eq_some_iff_getElem]
      refine ⟨hl, by simp [he, hv], fun j hj => ?_⟩
      have := List.all_eq_true.1 hi2 (l[j]'(by omega)) (by rw [List.mem_take_iff_getElem]; exact ⟨j, by omega, rfl⟩)
      simpa using this
    simp [resOK_iff, resVs, resCell, refVs, refCV, idxL, this]
  · rename_i hlt
    have hk' : l[i]? = some e := by simpa using hk
    have hil := (List.getElem?_eq_some_iff.1 hk').1
    refine ⟨i + 1, ⟨by omega, ?_⟩, by show l.length - (i + 1) < l.length - i; omega, weak_of rfl ?_ rfl (Nat.zero_le _)⟩
    · rw [List.take_add_one, hk', List.all_append, hi2]
      have hve : ¬ v = e := by simpa using hb
      simp [Ne.symm hve]
    · have := wrap_len (n := i + 1) (by omega)
      simp [envOK, getE]
      simpa using this
  · simp at hb
    have : l.findIdx? (· == v) = none := by
      rw [List.take_of_length_le (by omega)] at hi2
      rw [List.findIdx?_eq_none_iff]
      intro x hx
      have := List.all_eq_true.1 hi2 x hx
      simpa using this
    simp [resOK_iff, resVs, resCell, refVs, refCV, idxL, this]

end Go.Proofs.Ytbmaofepmheeeaa

/- Strips without squares of a side: the program. -/
import Derived.Test.YtkdnannepeoioaaDst
namespace Go.Proofs.Ytkdnannepeoioaa
open Go Go.RowKit
set_option maxRecDepth 10000
set_option linter.unusedSimpArgs false

/-- Ways to fill: those without squares of a side. -/
def stepV (wo : Nat) (i : Nat) (acc v : Int) : Int := if i = wo then acc else acc + v

theorem Vw_ex : ∃ f : Nat → Nat → Nat → Nat → Int, ∀ wo h left st, f wo h left st = Es (1 : Int) 0 (stepV wo) h left st := ⟨_, fun _ _ _ _ => rfl⟩

/-- The number of ways (a name that is not laid open by chance). -/
noncomputable def Vw : Nat → Nat → Nat → Nat → Int := Classical.choose Vw_ex

theorem Vw_eq (wo h left st : Nat) : Vw wo h left st = Es (1 : Int) 0 (stepV wo) h left st := Classical.choose_spec Vw_ex wo h left st

def GoodW (h l wo : Nat) (es : List (List Int × DV)) : Prop :=
  ∀ (a b c d X st : Nat) v, At h l X st [a, b, c, d] → X ≤ l → es.lookup [(a : Int), (b : Int), (c : Int), (d : Int)] = some v → v = .c (dI (IntKind.i64.wrap (Vw wo h (l - X) st)))

abbrev objW (h l s : Nat) (es : List (List Int × DV)) : Objs :=
  [(0, .box [.d (dI l)]), (0, .box [.d (dI s)]), (0, .box [.d (dI h), .d (dI l), .mp 3 0]), (0, .map 4 []), (0, .map 4 es), (0, .box [.d (dI h), .d (dI l), .mp 3 0]), (0, .box [.mp 4 0]),
    (0, .box [.fn 50 [(5, 0, 0), (0, 0, 0), (6, 0, 0), (1, 0, 0), (7, 0, 0)]])]

theorem wrap_form (x : Int) : IntKind.i64.wrap x = if x % 18446744073709551616 ≥ 9223372036854775808 then x % 18446744073709551616 - 18446744073709551616 else x % 18446744073709551616 := by
  simp [IntKind.wrap, IntKind.bits, IntKind.signed]

theorem wrap_add (a b : Int) : IntKind.i64.wrap (IntKind.i64.wrap a + IntKind.i64.wrap b) = IntKind.i64.wrap (a + b) := by
  rw [wrap_form a, wrap_form b, wrap_form (a + b), wrap_form]
  repeat' split
  all_goals omega

theorem wrap_wrap (a : Int) : IntKind.i64.wrap (IntKind.i64.wrap a) = IntKind.i64.wrap a := by
  have := wrap_add a 0
  have e : IntKind.i64.wrap 0 = 0 := by decide
  rw [e, Int.add_zero, Int.add_zero] at this
  exact this

/-- A part of the sides' sum. -/
def partE {α : Type} (one zero : α) (step : Nat → α → α → α) (h left st y i : Nat) : α := (List.range i).foldl (fun acc j => match nx h left st y (j + 1) with
  | some (l, s) => step (j + 1) acc (Es one zero step h l s)
  | none => acc) zero

theorem partE_succ {α : Type} (one zero : α) (step : Nat → α → α → α) {h left st y i a b : Nat} (hn : nx h left st y (i + 1) = some (a, b)) : partE one zero step h left st y (i + 1) = step (i + 1) (partE one zero step h left st y i) (Es one zero step h a b) := by
  unfold partE
  rw [List.range_succ, List.foldl_append]
  simp only [List.foldl_cons, List.foldl_nil, hn]

theorem partE_all {α : Type} (one zero : α) (step : Nat → α → α → α) {h left st y m : Nat} (hm : m ≤ h) (hno : ∀ i, m < i → i ≤ h → nx h left st y i = none) : partE one zero step h left st y h = partE one zero step h left st y m := by
  obtain ⟨k, rfl⟩ : ∃ k, h = m + k := ⟨h - m, by omega⟩
  have : ∀ j, j ≤ k → partE one zero step (m + k) left st y (m + j) = partE one zero step (m + k) left st y m := by
    intro j
    induction j with
    | zero => intro _; rfl
    | succ j ih =>
      intro hj
      rw [← ih (by omega)]
      conv => lhs; unfold partE
      rw [show m + (j + 1) = (m + j) + 1 by omega, List.range_succ, List.foldl_append]
      simp only [List.foldl_cons, List.foldl_nil, hno (m + j + 1) (by omega) (by omega)]
      rfl
  exact this k (Nat.le_refl _)

theorem Es_part {α : Type} (one zero : α) (step : Nat → α → α → α) {h l X st y : Nat} {R : List Nat} (hh : h < 5) (hl : l ≤ 30) (hX : X < l) (hat : At h l X st R) (hy : freeS h st = some y) : Es one zero step h (l - X) st = partE one zero step h (l - X) st y (mst h l X R y) := by
  rw [Es_put one zero step hh (by omega) hat.lt (by omega) hy]
  refine partE_all one zero step (mst_le hh) (fun i h1 h2 => ?_)
  cases hn : nx h (l - X) st y i with
  | none => rfl
  | some p =>
    have := (nx_iff hh (by omega) hat hy (by omega) h2).1 (by rw [hn]; rfl)
    omega

theorem putR_four (R : List Nat) (y side : Nat) : ∃ a b c d, putR R y side = [a, b, c, d] := ⟨_, _, _, _, rfl⟩

theorem lookup_upd {es : List (List Int × DV)} {k k' : List Int} {v : DV} : (updM es k v).lookup k' = if k' = k then some v else es.lookup k' := by
  induction es with
  | nil =>
    unfold updM
    by_cases e : k' = k
    · subst e; simp
    · rw [if_neg e, List.lookup_cons]
      have : (k' == k) = false := beq_eq_false_iff_ne.2 e
      rw [this]
  | cons x r ih =>
    obtain ⟨k0, v0⟩ := x
    unfold updM
    by_cases e0 : k0 = k
    · subst e0
      rw [if_pos (by simp)]
      by_cases e : k' = k0
      · subst e; simp
      · have : (k' == k0) = false := beq_eq_false_iff_ne.2 e
        rw [if_neg e, List.lookup_cons, List.lookup_cons, this]
    · rw [if_neg (by simpa using e0), List.lookup_cons, List.lookup_cons]
      by_cases e : k' = k0
      · subst e
        rw [if_neg e0]
        simp
      · have : (k' == k0) = false := beq_eq_false_iff_ne.2 e
        rw [this]
        exact ih

theorem without_rec {h l s : Nat} (hh : 1 ≤ h ∧ h < 5) (hl : l ≤ 30) (hs : 1 ≤ s ∧ s ≤ 4) : ∀ (n a b c d X st : Nat) (es : List (List Int × DV)), At h l X st [a, b, c, d] → X ≤ l → mu h (l - X) st < n → GoodW h l s es →
    CallX G.P 50 [.agg [.d (dI a), .d (dI b), .d (dI c), .d (dI d)], .c (.ptr 5 0 0), .c (.ptr 0 0 0), .c (.ptr 6 0 0), .c (.ptr 1 0 0), .c (.ptr 7 0 0)] (objW h l s es)
      (fun sv objs1 => sv = .one (.c (vI (IntKind.i64.wrap (Vw s h (l - X) st)))) ∧ ∃ es' gs, GoodW h l s es' ∧ objs1 = objW h l s es' ++ gs)
  | 0, _, _, _, _, _, _, _, _, _, hm, _ => by omega
  | n + 1, a, b, c, d, X, st, es, hat, hX, hm, hg => by
    obtain ⟨y, hy⟩ := Option.isSome_iff_exists.1 hat.free
    have hnext := next_x [] hh.2 hat hy (by omega)
    refine call_body (G := G) Try.func50 rfl (by decide) (Nat.le_of_ble_eq_true rfl) ?_
    conv => whnf
    refine frame1 hnext rfl rfl (.cons (.agg (.cons (.data rfl) (.cons (.data rfl) (.cons .mp .nil)))) (.cons (.agg (.cons (.data rfl) (.cons (.data rfl) (.cons (.data rfl) (.cons (.data rfl) .nil))))) .nil)) ?_
    rintro sv objs1 ⟨rfl, gs, rfl⟩
    refine ⟨_, gs, rfl, rfl, rfl, ?_⟩
    conv => whnf
    refine Br.mk (fun hb => ?_) (fun hb => ?_) <;> conv => whnf
    · have hXl : X = l := by simp at hb; omega
      subst hXl
      have h0 := at_end hh.2 hat
      subst h0
      refine ⟨?_, es, _, hg, rfl⟩
      have e : Vw s h (X - X) 0 = 1 := by rw [Nat.sub_self, Vw_eq]; exact Es_zero _ _ _
      rw [e]
      rfl
    have hXl : ¬ X = l := by simp at hb; omega
    refine ⟨⟨rfl, by simp; have h0 := hat.small 0; have h1 := hat.small 1; have h2 := hat.small 2; have h3 := hat.small 3; simp at h0 h1 h2 h3; omega⟩, ⟨?_⟩⟩
    cases hlk : es.lookup [(a : Int), (b : Int), (c : Int), (d : Int)] with
    | some v =>
      obtain rfl := hg a b c d X st v hat hX hlk
      conv => whnf
      exact ⟨rfl, es, _, hg, rfl⟩
    | none =>
      conv => whnf
      refine .inl ⟨Nat × List (List Int × DV), fun x => 5 - x.1, fun x => x.1 ≤ mst h l X [a, b, c, d] y ∧ GoodW h l s x.2,
        fun x => ⟨[(1, .one (.c (.ptr 5 0 0))), (2, .one (.c (.ptr 0 0 0))), (3, .one (.c (.ptr 6 0 0))), (4, .one (.c (.ptr 1 0 0))), (5, .one (.c (.ptr 7 0 0))), (6, .one (.c (.ptr 8 0 0))), (9, .one (.c (vI y))), (10, .one (.c (vI (mst h l X [a, b, c, d] y)))),
            (13, .one (.c (vI (IntKind.i64.wrap (partE (1 : Int) 0 (stepV s) h (l - X) st y x.1))))), (14, .one (.c (vI ((x.1 + 1 : Nat) : Int))))],
          objW h l s x.2 ++ [(0, .box [.d (dI a), .d (dI b), .d (dI c), .d (dI d)])], _⟩, (0, es), ⟨Nat.zero_le _, hg⟩, weak_of rfl ?_ rfl (Nat.le_of_ble_eq_true rfl), ?_⟩
      · (repeat' first | exact rfl | exact trivial | apply And.intro | (simp [getE]; done))
      rintro ⟨i, es1⟩ ⟨him, hg1⟩
      have hmh := mst_le (h := h) (l := l) (X := X) (R := [a, b, c, d]) (y := y) hh.2
      dsimp only at him hg1 ⊢
      conv => whnf
      refine Br.mk (fun hb => ?_) (fun hb => ?_) <;> conv => whnf
      · -- one side more
        have hlt : i + 1 ≤ mst h l X [a, b, c, d] y := by simp at hb; omega
        obtain ⟨X', st', a0, b0, p1, p2, p3, p4, p5⟩ := put_at (1 : Int) 0 (stepV s) hh.2 hl hX hat hy (show 1 ≤ i + 1 by omega) hlt
        have hw1 : IntKind.i64.wrap (((i + 1 : Nat) : Int) + 1) = ((i + 1 + 1 : Nat) : Int) := by rw [wrap_i64 _ (by omega) (by omega)]; omega
        have hP := partE_succ (1 : Int) 0 (stepV s) p1
        refine Br.mk (fun hb2 => ?_) (fun hb2 => ?_) <;> conv => whnf
        · have hne : ¬ i + 1 = s := by simp at hb2; omega
          obtain ⟨a', b', c', d', hR⟩ := putR_four [a, b, c, d] y (i + 1)
          rw [hR] at p2
          have hy4 : y + (i + 1) ≤ 4 := by
            have := ((mst_iff hh.2).1 hlt i (by omega)).1; omega
          have hval : IntKind.i64.wrap (IntKind.i64.wrap (partE (1 : Int) 0 (stepV s) h (l - X) st y i) + IntKind.i64.wrap (Vw s h (l - X') st')) = IntKind.i64.wrap (partE (1 : Int) 0 (stepV s) h (l - X) st y (i + 1)) := by
            have e : ∀ u v : Int, stepV s (i + 1) u v = u + v := fun u v => if_neg hne
            rw [wrap_add, hP, p4, e, Vw_eq]
          have hput := put4_x (by omega) hy4 hat.small hR
          have hrec := without_rec hh hl hs n a' b' c' d' X' st' es1 p2 p3 (by omega) hg1
          refine draw_mkW (by kernel_rfl) ?_
          conv => whnf
          repeat' first
            | (refine call_sn (by repeat' first | exact rfl | exact trivial | apply And.intro) hput ?_; conv => whnf)
            | (refine callX_drop (objs := objW h l s es1) (gs := [(0, .box [.d (dI a), .d (dI b), .d (dI c), .d (dI d)])]) hrec rfl ?_; rintro _ _ ⟨rfl, es2, gs2, hg2, rfl⟩ _; refine ⟨rfl, ?_⟩; conv => whnf)
            | (refine And.intro ?_ ?_ <;> conv => whnf)
          all_goals (refine ⟨(i + 1, es2), ⟨hlt, hg2⟩, by show 5 - (i + 1) < 5 - i; omega, weak_of rfl ?_ rfl (Nat.le_of_ble_eq_true rfl)⟩)
          all_goals (simp only [hw1, hval])
          all_goals (repeat' first | exact rfl | exact trivial | apply And.intro | (simp [getE]; done))
        · have he : i + 1 = s := by simp at hb2; omega
          refine ⟨(i + 1, es1), ⟨hlt, hg1⟩, by show 5 - (i + 1) < 5 - i; omega, weak_of rfl ?_ rfl (Nat.le_of_ble_eq_true rfl)⟩
          have hval : partE (1 : Int) 0 (stepV s) h (l - X) st y (i + 1) = partE (1 : Int) 0 (stepV s) h (l - X) st y i := by
            have e : ∀ u v : Int, stepV s (i + 1) u v = u := fun u v => if_pos he
            rw [hP, e]
          simp only [hw1, hval]
          (repeat' first | exact rfl | exact trivial | apply And.intro | (simp [getE]; done))
      · have hie : i = mst h l X [a, b, c, d] y := by simp at hb; omega
        have hval := Es_part (1 : Int) 0 (stepV s) hh.2 hl (by omega) hat hy
        rw [← hie] at hval
        refine ⟨trivial, ⟨rfl, by simp; have h0 := hat.small 0; have h1 := hat.small 1; have h2 := hat.small 2; have h3 := hat.small 3; simp at h0 h1 h2 h3; omega⟩, ?_⟩
        conv => whnf
        refine ⟨by rw [Vw_eq, hval], updM es1 [(a : Int), (b : Int), (c : Int), (d : Int)] (.c (dI (IntKind.i64.wrap (partE (1 : Int) 0 (stepV s) h (l - X) st y i)))), _, ?_, rfl⟩
        intro a1 b1 c1 d1 X1 st1 v1 hat1 hX1 hl1
        rw [lookup_upd] at hl1
        split at hl1
        · rename_i hkk
          simp only [List.cons.injEq, and_true] at hkk
          obtain ⟨k1, k2, k3, k4⟩ := hkk
          obtain rfl : a1 = a := by omega
          obtain rfl : b1 = b := by omega
          obtain rfl : c1 = c := by omega
          obtain rfl : d1 = d := by omega
          obtain ⟨rfl, rfl⟩ := At.unique hh.2 hat1 hat
          obtain rfl := Option.some.inj hl1
          rw [Vw_eq]
          exact congrArg (fun z => DV.c (dI (IntKind.i64.wrap z))) hval.symm
        · exact hg1 a1 b1 c1 d1 X1 st1 v1 hat1 hX1 hl1

end Go.Proofs.Ytkdnannepeoioaa

/- Strips: the program's tally of all ways to fill. -/
import Derived.Test.YtmfdkjjhdjkgpaaQZj
import Derived.Test.YtmfdkjjhdjkgpaaQZf
namespace Go.Proofs.Ytmfdkjjhdjkgpaa
open Go Go.RowKit
set_option maxRecDepth 10000
set_option linter.unusedSimpArgs false

/-- A row, so long at least. -/
def padTo (a : List Int) (n : Nat) : List Int := a ++ List.replicate (n - a.length) 0

/-- The first k of o, each to the next place of a row. -/
def addK (p o : List Int) : Nat → List Int
  | 0 => p
  | k + 1 => (addK p o k).set (k + 1) (IntKind.i64.wrap ((addK p o k).getD (k + 1) 0 + o.getD k 0))

def sumK (s : Int) (o : List Int) : Nat → Int
  | 0 => s
  | k + 1 => IntKind.i64.wrap (sumK s o k + o.getD k 0)

/-- A tally: with each number of squares; squares of each side. -/
abbrev TY := List Int × Int × Int × Int × Int × Int

def oneT : TY := ([1], 0, 0, 0, 0, 0)
def zeroT : TY := ([], 0, 0, 0, 0, 0)
def wadd (a b : Int) : Int := IntKind.i64.wrap (a + b)

def sideK (i j : Nat) (s : Int) (o : List Int) : Int := if i = j then sumK s o o.length else s

def stepT (i : Nat) (a v : TY) : TY :=
  (addK (padTo a.1 (v.1.length + 1)) v.1 v.1.length,
   wadd (sideK i 0 a.2.1 v.1) v.2.1, wadd (sideK i 1 a.2.2.1 v.1) v.2.2.1, wadd (sideK i 2 a.2.2.2.1 v.1) v.2.2.2.1, wadd (sideK i 3 a.2.2.2.2.1 v.1) v.2.2.2.2.1, wadd (sideK i 4 a.2.2.2.2.2 v.1) v.2.2.2.2.2)

theorem Tw_ex : ∃ f : Nat → Nat → Nat → TY, ∀ h left st, f h left st = Es oneT zeroT stepT h left st := ⟨_, fun _ _ _ => rfl⟩

/-- The tally (a name that is not laid open by chance). -/
noncomputable def Tw : Nat → Nat → Nat → TY := Classical.choose Tw_ex

theorem Tw_eq (h left st : Nat) : Tw h left st = Es oneT zeroT stepT h left st := Classical.choose_spec Tw_ex h left st

def tDV (t : TY) : DV := .agg [.list 1 (t.1.map r1), dI t.2.1, dI t.2.2.1, dI t.2.2.2.1, dI t.2.2.2.2.1, dI t.2.2.2.2.2]

def GoodY (h l : Nat) (es : List (List Int × DV)) : Prop :=
  ∀ (a b c d X st : Nat) v, At h l X st [a, b, c, d] → X ≤ l → es.lookup [(a : Int), (b : Int), (c : Int), (d : Int)] = some v → v = tDV (Tw h (l - X) st)

theorem addK_len (p o : List Int) : ∀ k, (addK p o k).length = p.length
  | 0 => rfl
  | k + 1 => by unfold addK; rw [List.length_set, addK_len p o k]

theorem stepT_len {i n : Nat} {a v : TY} (ha : a.1.length ≤ n) (hv : v.1.length + 1 ≤ n) : (stepT i a v).1.length ≤ n := by
  show (addK _ _ _).length ≤ n
  rw [addK_len]
  unfold padTo
  rw [List.length_append, List.length_replicate]
  omega

theorem fold_len {n : Nat} {f : Nat → Option (Nat × Nat)} {g : Nat → Nat → TY} (hg : ∀ a b, (g a b).1.length + 1 ≤ n) : ∀ (l : List Nat) (t : TY), t.1.length ≤ n →
    (l.foldl (fun acc i => match f (i + 1) with
      | some (a, b) => stepT (i + 1) acc (g a b)
      | none => acc) t).1.length ≤ n
  | [], _, h => h
  | x :: r, t, h => by
    rw [List.foldl_cons]
    refine fold_len hg r _ ?_
    split
    · exact stepT_len h (hg _ _)
    · exact h

theorem Ev_len {h : Nat} : ∀ (n left st : Nat), (Ev oneT zeroT stepT h n left st).1.length ≤ n + 1
  | 0, _, _ => Nat.zero_le _
  | n + 1, left, st => by
    rw [Ev]
    split
    · split
      · exact Nat.succ_le_succ (Nat.zero_le _)
      · exact Nat.zero_le _
    · split
      · exact Nat.le_succ_of_le (Ev_len n _ _)
      · rename_i r _
        exact fold_len (f := fun i => nx h left st r i) (g := fun a b => Ev oneT zeroT stepT h n a b) (fun a b => Nat.succ_le_succ (Ev_len n a b)) _ _ (Nat.zero_le _)

theorem Tw_len (h left st : Nat) : (Tw h left st).1.length ≤ 201 := by
  rw [Tw_eq]
  exact Ev_len 200 left st

theorem partE_len (h left st y i : Nat) : (partE oneT zeroT stepT h left st y i).1.length ≤ 202 := by
  unfold partE
  exact fold_len (f := fun i => nx h left st y i) (g := fun a b => Es oneT zeroT stepT h a b) (fun a b => Nat.succ_le_succ (Ev_len 200 a b)) _ _ (Nat.zero_le _)

theorem two_step {ι : Type} {Pr : ι → Prop} {T : ι → Prop} {Goal : Prop} (main : (∀ x, Pr x → T x) → Goal) (body : ∀ x, Pr x → T x) : Goal := main body

set_option maxHeartbeats 8000000 in
theorem count_rec {h l : Nat} (hh : 1 ≤ h ∧ h < 5) (hl : l ≤ 30) : ∀ (n a b c d X st : Nat) (es : List (List Int × DV)), At h l X st [a, b, c, d] → X ≤ l → mu h (l - X) st < n → GoodY h l es →
    CallX G.P 95 [.agg [.d (dI h), .d (dI l), .mp 0 0], .agg [.d (dI a), .d (dI b), .d (dI c), .d (dI d)]] [(0, .map 4 es)]
      (fun sv objs1 => sv = .one (dvX (tDV (Tw h (l - X) st))) ∧ ∃ es' gs, GoodY h l es' ∧ objs1 = (0, .map 4 es') :: gs)
  | 0, _, _, _, _, _, _, _, _, _, hm, _ => by omega
  | n + 1, a, b, c, d, X, st, es, hat, hX, hm, hg => by
    obtain ⟨y, hy⟩ := Option.isSome_iff_exists.1 hat.free
    have hnext := next_x es hh.2 hat hy (by omega)
    refine CallX.freeze ?_ (fun _ _ h => h)
    refine call_body (G := G) Try.func95 rfl (by decide) (Nat.le_of_ble_eq_true rfl) ?_
    conv => whnf
    refine callX_drop (objs := [(0, .map 4 es)]) (gs := [(0, .box [.d (dI h), .d (dI l), .mp 0 0]), (0, .box [.d (dI a), .d (dI b), .d (dI c), .d (dI d)]), (0, .box [.nilsl, .d (dI 0), .d (dI 0), .d (dI 0), .d (dI 0), .d (dI 0)])]) hnext rfl ?_
    rintro _ _ ⟨rfl, gs, rfl⟩ _
    refine ⟨rfl, ?_⟩
    conv => whnf
    refine Br.mk (fun hb => ?_) (fun hb => ?_) <;> conv => whnf
    · have hXl : X = l := by simp at hb; omega
      subst hXl
      have h0 := at_end hh.2 hat
      subst h0
      have e : Tw h (X - X) 0 = oneT := by rw [Nat.sub_self, Tw_eq]; exact Es_zero _ _ _
      rw [e]
      refine ⟨_, _, _, rfl, ⟨Nat.le_refl 1, ?_⟩, rfl, rfl, es, _, hg, rfl⟩
      (repeat' first | exact rfl | exact trivial | apply And.intro | (simp [getE]; done))
    have hXl : ¬ X = l := by simp at hb; omega
    refine ⟨⟨rfl, by simp; have h0 := hat.small 0; have h1 := hat.small 1; have h2 := hat.small 2; have h3 := hat.small 3; simp at h0 h1 h2 h3; omega⟩, ⟨?_⟩⟩
    cases hlk : es.lookup [(a : Int), (b : Int), (c : Int), (d : Int)] with
    | some v =>
      obtain rfl := hg a b c d X st v hat hX hlk
      conv => whnf
      refine ⟨_, _, _, rfl, ?_, rfl, rfl, es, _, hg, rfl⟩
      (repeat' first | exact rfl | exact trivial | apply And.intro | (simp [getE]; done))
    | none =>
      conv => whnf
      refine .inl ⟨Nat × List (List Int × DV) × TY, fun x => 5 - x.1, fun x => x.1 ≤ mst h l X [a, b, c, d] y ∧ GoodY h l x.2.1 ∧ x.2.2 = partE oneT zeroT stepT h (l - X) st y x.1,
        fun x => ⟨[(2, .one (.c (.ptr 1 0 0))), (3, .one (.c (.ptr 2 0 0))), (4, .one (.c (.ptr 3 0 0))), (6, .one (.c (vI y))), (7, .one (.c (vI (mst h l X [a, b, c, d] y)))), (8, .one (.c (.ptr 4 0 0))), (10, .one (.c (.ptr 5 0 0))),
            (11, .one (.c (vI ((x.1 + 1 : Nat) : Int))))],
          [(0, .map 4 x.2.1), (0, .box [.d (dI h), .d (dI l), .mp 0 0]), (0, .box [.d (dI a), .d (dI b), .d (dI c), .d (dI d)]), (0, .box [.nilsl, .d (dI 0), .d (dI 0), .d (dI 0), .d (dI 0), .d (dI 0)]), (0, .box [.nilsl, .d (dI 0), .d (dI 0), .d (dI 0), .d (dI 0), .d (dI 0)]),
            (0, .box [.sl 6 0 1 0 x.2.2.1.length none, .d (dI x.2.2.2.1), .d (dI x.2.2.2.2.1), .d (dI x.2.2.2.2.2.1), .d (dI x.2.2.2.2.2.2.1), .d (dI x.2.2.2.2.2.2.2)])] ++ [(0, .arr 1 (x.2.2.1.map r1))], _⟩, (0, es, zeroT), ⟨Nat.zero_le _, hg, rfl⟩, weak_nilof 6 1 rfl ?_ rfl rfl rfl (Nat.le_of_ble_eq_true rfl) (Nat.le_of_ble_eq_true rfl), ?_⟩
      · (repeat' first | exact rfl | exact trivial | apply And.intro | (simp [getE]; done))
      rintro ⟨i, es1, by1, s0, s1, s2, s3, s4⟩ ⟨him, hg1, hP⟩
      have hmh := mst_le (h := h) (l := l) (X := X) (R := [a, b, c, d]) (y := y) hh.2
      dsimp only at him hg1 hP ⊢
      conv => whnf
      refine Br.mk (fun hb => ?_) (fun hb => ?_) <;> conv => whnf
      · -- one side more
        have hlt : i + 1 ≤ mst h l X [a, b, c, d] y := by simp at hb; omega
        obtain ⟨X', st', a0, b0, p1, p2, p3, p4, p5⟩ := put_at oneT zeroT stepT hh.2 hl hX hat hy (show 1 ≤ i + 1 by omega) hlt
        have hw1 : IntKind.i64.wrap (((i + 1 : Nat) : Int) + 1) = ((i + 1 + 1 : Nat) : Int) := by rw [wrap_i64 _ (by omega) (by omega)]; omega
        have hPs := partE_succ oneT zeroT stepT p1
        obtain ⟨a', b', c', d', hR⟩ := putR_four [a, b, c, d] y (i + 1)
        rw [hR] at p2
        have hy4 : y + (i + 1) ≤ 4 := by
          have := ((mst_iff hh.2).1 hlt i (by omega)).1; omega
        have hput := put4_x (by omega) hy4 hat.small hR
        have hrec := count_rec hh hl n a' b' c' d' X' st' es1 p2 p3 (by omega) hg1
        replace p4 := p4.trans (Tw_eq _ _ _).symm
        generalize hT : Tw h (l - X') st' = T at hrec p4
        obtain ⟨oby, o0, o1, o2, o3, o4⟩ := T
        have hbo : oby.length ≤ 300 := by
          have := Tw_len h (l - X') st'
          rw [hT] at this
          exact Nat.le_trans this (by decide)
        have hb1 : by1.length ≤ 300 := by
          have := partE_len h (l - X) st y i
          rw [← hP] at this
          exact Nat.le_trans this (by decide)
        have hi4 : i = 0 ∨ i = 1 ∨ i = 2 ∨ i = 3 := by omega
        rcases hi4 with rfl | rfl | rfl | rfl
        · apply two_step (Pr := GoodY h l)
          · intro key
            refine draw_mkW (by kernel_rfl) ?_
            conv => whnf
            repeat' first
              | (refine call_sn (by repeat' first | exact rfl | exact trivial | apply And.intro) hput ?_; conv => whnf)
              | (refine callX_drop (objs := [(0, .map 4 es1)]) (gs := [(0, .box [.d (dI h), .d (dI l), .mp 0 0]), (0, .box [.d (dI a), .d (dI b), .d (dI c), .d (dI d)]), (0, .box [.nilsl, .d (dI 0), .d (dI 0), .d (dI 0), .d (dI 0), .d (dI 0)]), (0, .box [.nilsl, .d (dI 0), .d (dI 0), .d (dI 0), .d (dI 0), .d (dI 0)]),
                (0, .box [.sl 6 0 1 0 by1.length none, .d (dI s0), .d (dI s1), .d (dI s2), .d (dI s3), .d (dI s4)]), (0, .arr 1 (by1.map r1)), (0, .box [.nilsl, .d (dI 0), .d (dI 0), .d (dI 0), .d (dI 0), .d (dI 0)])]) hrec rfl ?_; rintro _ _ ⟨rfl, es2, gs2, hg2, rfl⟩ _; refine ⟨rfl, ?_⟩; conv => whnf)
              | (refine callX_drop (objs := [(0, .map 4 es1)]) (gs := [(0, .box [.d (dI h), .d (dI l), .mp 0 0]), (0, .box [.d (dI a), .d (dI b), .d (dI c), .d (dI d)]), (0, .box [.nilsl, .d (dI 0), .d (dI 0), .d (dI 0), .d (dI 0), .d (dI 0)]), (0, .box [.nilsl, .d (dI 0), .d (dI 0), .d (dI 0), .d (dI 0), .d (dI 0)]),
                (0, .box [.sl 6 0 1 0 by1.length none, .d (dI s0), .d (dI s1), .d (dI s2), .d (dI s3), .d (dI s4)]), (0, .arr 1 (by1.map r1))]) hrec rfl ?_; rintro _ _ ⟨rfl, es2, gs2, hg2, rfl⟩ _; refine ⟨rfl, ?_⟩; conv => whnf)
              | (refine And.intro ?_ ?_ <;> conv => whnf)
            all_goals
              refine .inl ⟨Nat × List Int, fun x => 700 - x.1, fun x => x.2 = by1 ++ List.replicate x.1 0 ∧ x.2.length ≤ max by1.length (oby.length + 1),
              fun x => ⟨[(2, .one (.c (.ptr 1 0 0))), (3, .one (.c (.ptr 2 0 0))), (4, .one (.c (.ptr 3 0 0))), (6, .one (.c (vI y))), (7, .one (.c (vI (mst h l X [a, b, c, d] y)))), (8, .one (.c (.ptr 4 0 0))), (10, .one (.c (.ptr 5 0 0))), (11, .one (.c (vI ((0 + 1 : Nat) : Int)))), (12, .one (.c (.ptr 7 0 0)))],
                [(0, .map 4 es2), (0, .box [.d (dI h), .d (dI l), .mp 0 0]), (0, .box [.d (dI a), .d (dI b), .d (dI c), .d (dI d)]), (0, .box [.nilsl, .d (dI 0), .d (dI 0), .d (dI 0), .d (dI 0), .d (dI 0)]), (0, .box [.nilsl, .d (dI 0), .d (dI 0), .d (dI 0), .d (dI 0), .d (dI 0)]),
                  (0, .box [.sl 6 0 1 0 x.2.length none, .d (dI s0), .d (dI s1), .d (dI s2), .d (dI s3), .d (dI s4)]), (0, .arr 1 (x.2.map r1)), (0, .box [.d (.list 1 (oby.map r1)), .d (dI o0), .d (dI o1), .d (dI o2), .d (dI o3), .d (dI o4)])], _⟩, (0, by1), ⟨by simp, Nat.le_max_left _ _⟩, weak_of rfl ?_ rfl (Nat.le_of_ble_eq_true rfl), ?_⟩
              · (repeat' first | exact rfl | exact trivial | apply And.intro | (simp [getE]; done))
              exact key es2 hg2
          intro es2 hg2
          dsimp only
          rintro ⟨j, bs⟩ ⟨hbs, hbl⟩
          dsimp only at hbs hbl
          conv => whnf
          refine Br.mk (fun hb2 => ?_) (fun hb2 => ?_) <;> conv => whnf
          · have hlt1 : bs.length ≤ oby.length := by simp at hb2; omega
            refine ⟨Nat.le_refl 1, ?_⟩
            conv => whnf
            refine ⟨by simp, by simp; omega, by simp; omega, ?_⟩
            conv => whnf
            obtain ⟨bs2, hbs2⟩ : ∃ q, q = bs ++ [0] := ⟨_, rfl⟩
            have e1 : bs2.length = bs.length + 1 := by rw [hbs2]; simp
            have e2 : bs2.map r1 = List.take bs.length (List.drop 0 (bs.map r1)) ++ List.take 1 (List.drop 0 ((List.replicate 1 [dI 0]).set 0 [dI 0])) := by
              rw [hbs2]
              simp [r1]
              exact (List.take_of_length_le (by simp)).symm
            have hjl : bs.length = by1.length + j := by rw [hbs]; simp
            refine ⟨(j + 1, bs2), ⟨?_, ?_⟩, (by show 700 - (j + 1) < 700 - j; omega), weak_verof 6 1 0 ?_ ?_ rfl rfl (Nat.le_of_ble_eq_true rfl) (Nat.le_of_ble_eq_true rfl)⟩
            · show bs2 = by1 ++ List.replicate (j + 1) 0
              rw [hbs2, hbs, List.append_assoc, List.replicate_succ']
            · show bs2.length ≤ _
              omega
            · dsimp only
              rw [e1, e2]
              rfl
            · (repeat' first | exact rfl | exact trivial | apply And.intro | (simp [getE]; done))
          · have hge1 : oby.length + 1 ≤ bs.length := by simp at hb2; omega
            have hbs2 : bs = padTo by1 (oby.length + 1) := by
              have hjl : bs.length = by1.length + j := by rw [hbs]; simp
              rw [hbs]
              unfold padTo
              congr 2
              omega
            clear hbs
            refine .inl ⟨Nat, fun k => 700 - k, fun k => k ≤ oby.length,
              fun k => ⟨[(2, .one (.c (.ptr 1 0 0))), (3, .one (.c (.ptr 2 0 0))), (4, .one (.c (.ptr 3 0 0))), (6, .one (.c (vI y))), (7, .one (.c (vI (mst h l X [a, b, c, d] y)))), (8, .one (.c (.ptr 4 0 0))), (10, .one (.c (.ptr 5 0 0))), (11, .one (.c (vI ((0 + 1 : Nat) : Int)))), (12, .one (.c (.ptr 7 0 0))),
                  (64, .one (.c (.d (.list 1 (oby.map r1))))), (65, .one (.c (vI (oby.length : Nat)))), (66, .one (.c (vI k)))],
                [(0, .map 4 es2), (0, .box [.d (dI h), .d (dI l), .mp 0 0]), (0, .box [.d (dI a), .d (dI b), .d (dI c), .d (dI d)]), (0, .box [.nilsl, .d (dI 0), .d (dI 0), .d (dI 0), .d (dI 0), .d (dI 0)]), (0, .box [.nilsl, .d (dI 0), .d (dI 0), .d (dI 0), .d (dI 0), .d (dI 0)]),
                  (0, .box [.sl 6 0 1 0 bs.length none, .d (dI s0), .d (dI (sumK s1 oby k)), .d (dI s2), .d (dI s3), .d (dI s4)]), (0, .arr 1 ((addK bs oby k).map r1)), (0, .box [.d (.list 1 (oby.map r1)), .d (dI o0), .d (dI o1), .d (dI o2), .d (dI o3), .d (dI o4)])], _⟩, 0, Nat.zero_le _, weak_of rfl ?_ rfl (Nat.le_of_ble_eq_true rfl), ?_⟩
            · rw [List.length_map]
              (repeat' first | exact rfl | exact trivial | apply And.intro | (simp [getE]; done))
            intro k hk
            replace hk : k ≤ oby.length := hk
            conv => whnf
            refine Br.mk (fun hb3 => ?_) (fun hb3 => ?_) <;> conv => whnf
            · have hkl : k < oby.length := by simp at hb3; omega
              refine ⟨by omega, by simp; omega, ?_⟩
              conv => whnf
              refine El.mk (fun el1 hel1 => ?_)
              obtain ⟨v1, hv1, rfl⟩ := r1_get hel1
              conv => whnf
              have hk1 : IntKind.i64.wrap ((k : Int) + 1) = ((k + 1 : Nat) : Int) := by rw [wrap_i64 _ (by omega) (by omega)]; omega
              rw [hk1]
              refine ⟨by omega, by omega, ?_⟩
              conv => whnf
              have hz : 0 + (((k + 1 : Nat) : Int)).toNat = k + 1 := by simp
              rw [hz]
              refine ⟨by rw [List.length_map, addK_len]; omega, El.mk (fun el2 hel2 => ?_)⟩
              obtain ⟨v2, hv2, rfl⟩ := r1_get hel2
              conv => whnf
              refine ⟨by omega, by omega, ?_⟩
              conv => whnf
              refine ⟨by rw [hz, List.length_map, addK_len]; omega, ?_⟩
              conv => whnf
              repeat (refine ⟨by decide, by decide, ?_⟩; conv => whnf)
              have g1 : oby.getD k 0 = v1 := by
                have := hv1
                simp only [Int.toNat_natCast] at this
                simp [List.getD, this]
              have g2 : (addK bs oby k).getD (k + 1) 0 = v2 := by simp [List.getD, hv2]
              have e3 : sumK s1 oby (k + 1) = IntKind.i64.wrap (sumK s1 oby k + v1) := by rw [← g1]; rfl
              have e4 : (addK bs oby (k + 1)).map r1 = ((addK bs oby k).map r1).set (k + 1) [dI (IntKind.i64.wrap (v2 + v1))] := by
                rw [← g1, ← g2]
                conv => lhs; unfold addK
                rw [List.map_set]
                rfl
              refine ⟨k + 1, (by omega : k + 1 ≤ oby.length), (by omega : 700 - (k + 1) < 700 - k), weak_of ?_ ?_ rfl (Nat.le_of_ble_eq_true rfl)⟩
              · rw [e3, e4, hz]
                rfl
              · rw [hk1]
                (repeat' first | exact rfl | exact trivial | apply And.intro | (simp [getE]; done))
            · have hke : k = oby.length := by simp at hb3; omega
              subst hke
              refine .inr ⟨6, ?_⟩
              conv => whnf
              repeat (refine ⟨by decide, by decide, ?_⟩; conv => whnf)
              refine ⟨(0 + 1, es2, (addK bs oby oby.length, wadd s0 o0, wadd (sumK s1 oby oby.length) o1, wadd s2 o2, wadd s3 o3, wadd s4 o4)), ⟨hlt, hg2, ?_⟩, (by show 5 - (0 + 1) < 5 - 0; omega), weak_of ?_ ?_ rfl (Nat.le_of_ble_eq_true rfl)⟩
              · rw [hPs, ← hP, p4, hbs2]
                rfl
              · dsimp only
                rw [addK_len]
                rfl
              · rw [hw1]
                (repeat' first | exact rfl | exact trivial | apply And.intro | (simp [getE]; done))
        · apply two_step (Pr := GoodY h l)
          · intro key
            refine draw_mkW (by kernel_rfl) ?_
            conv => whnf
            repeat' first
              | (refine call_sn (by repeat' first | exact rfl | exact trivial | apply And.intro) hput ?_; conv => whnf)
              | (refine callX_drop (objs := [(0, .map 4 es1)]) (gs := [(0, .box [.d (dI h), .d (dI l), .mp 0 0]), (0, .box [.d (dI a), .d (dI b), .d (dI c), .d (dI d)]), (0, .box [.nilsl, .d (dI 0), .d (dI 0), .d (dI 0), .d (dI 0), .d (dI 0)]), (0, .box [.nilsl, .d (dI 0), .d (dI 0), .d (dI 0), .d (dI 0), .d (dI 0)]),
                (0, .box [.sl 6 0 1 0 by1.length none, .d (dI s0), .d (dI s1), .d (dI s2), .d (dI s3), .d (dI s4)]), (0, .arr 1 (by1.map r1)), (0, .box [.nilsl, .d (dI 0), .d (dI 0), .d (dI 0), .d (dI 0), .d (dI 0)])]) hrec rfl ?_; rintro _ _ ⟨rfl, es2, gs2, hg2, rfl⟩ _; refine ⟨rfl, ?_⟩; conv => whnf)
              | (refine callX_drop (objs := [(0, .map 4 es1)]) (gs := [(0, .box [.d (dI h), .d (dI l), .mp 0 0]), (0, .box [.d (dI a), .d (dI b), .d (dI c), .d (dI d)]), (0, .box [.nilsl, .d (dI 0), .d (dI 0), .d (dI 0), .d (dI 0), .d (dI 0)]), (0, .box [.nilsl, .d (dI 0), .d (dI 0), .d (dI 0), .d (dI 0), .d (dI 0)]),
                (0, .box [.sl 6 0 1 0 by1.length none, .d (dI s0), .d (dI s1), .d (dI s2), .d (dI s3), .d (dI s4)]), (0, .arr 1 (by1.map r1))]) hrec rfl ?_; rintro _ _ ⟨rfl, es2, gs2, hg2, rfl⟩ _; refine ⟨rfl, ?_⟩; conv => whnf)
              | (refine And.intro ?_ ?_ <;> conv => whnf)
            all_goals
              refine .inl ⟨Nat × List Int, fun x => 700 - x.1, fun x => x.2 = by1 ++ List.replicate x.1 0 ∧ x.2.length ≤ max by1.length (oby.length + 1),
              fun x => ⟨[(2, .one (.c (.ptr 1 0 0))), (3, .one (.c (.ptr 2 0 0))), (4, .one (.c (.ptr 3 0 0))), (6, .one (.c (vI y))), (7, .one (.c (vI (mst h l X [a, b, c, d] y)))), (8, .one (.c (.ptr 4 0 0))), (10, .one (.c (.ptr 5 0 0))), (11, .one (.c (vI ((1 + 1 : Nat) : Int)))), (12, .one (.c (.ptr 7 0 0)))],
                [(0, .map 4 es2), (0, .box [.d (dI h), .d (dI l), .mp 0 0]), (0, .box [.d (dI a), .d (dI b), .d (dI c), .d (dI d)]), (0, .box [.nilsl, .d (dI 0), .d (dI 0), .d (dI 0), .d (dI 0), .d (dI 0)]), (0, .box [.nilsl, .d (dI 0), .d (dI 0), .d (dI 0), .d (dI 0), .d (dI 0)]),
                  (0, .box [.sl 6 0 1 0 x.2.length none, .d (dI s0), .d (dI s1), .d (dI s2), .d (dI s3), .d (dI s4)]), (0, .arr 1 (x.2.map r1)), (0, .box [.d (.list 1 (oby.map r1)), .d (dI o0), .d (dI o1), .d (dI o2), .d (dI o3), .d (dI o4)])], _⟩, (0, by1), ⟨by simp, Nat.le_max_left _ _⟩, weak_of rfl ?_ rfl (Nat.le_of_ble_eq_true rfl), ?_⟩
              · (repeat' first | exact rfl | exact trivial | apply And.intro | (simp [getE]; done))
              exact key es2 hg2
          intro es2 hg2
          dsimp only
          rintro ⟨j, bs⟩ ⟨hbs, hbl⟩
          dsimp only at hbs hbl
          conv => whnf
          refine Br.mk (fun hb2 => ?_) (fun hb2 => ?_) <;> conv => whnf
          · have hlt1 : bs.length ≤ oby.length := by simp at hb2; omega
            refine ⟨Nat.le_refl 1, ?_⟩
            conv => whnf
            refine ⟨by simp, by simp; omega, by simp; omega, ?_⟩
            conv => whnf
            obtain ⟨bs2, hbs2⟩ : ∃ q, q = bs ++ [0] := ⟨_, rfl⟩
            have e1 : bs2.length = bs.length + 1 := by rw [hbs2]; simp
            have e2 : bs2.map r1 = List.take bs.length (List.drop 0 (bs.map r1)) ++ List.take 1 (List.drop 0 ((List.replicate 1 [dI 0]).set 0 [dI 0])) := by
              rw [hbs2]
              simp [r1]
              exact (List.take_of_length_le (by simp)).symm
            have hjl : bs.length = by1.length + j := by rw [hbs]; simp
            refine ⟨(j + 1, bs2), ⟨?_, ?_⟩, (by show 700 - (j + 1) < 700 - j; omega), weak_verof 6 1 0 ?_ ?_ rfl rfl (Nat.le_of_ble_eq_true rfl) (Nat.le_of_ble_eq_true rfl)⟩
            · show bs2 = by1 ++ List.replicate (j + 1) 0
              rw [hbs2, hbs, List.append_assoc, List.replicate_succ']
            · show bs2.length ≤ _
              omega
            · dsimp only
              rw [e1, e2]
              rfl
            · (repeat' first | exact rfl | exact trivial | apply And.intro | (simp [getE]; done))
          · have hge1 : oby.length + 1 ≤ bs.length := by simp at hb2; omega
            have hbs2 : bs = padTo by1 (oby.length + 1) := by
              have hjl : bs.length = by1.length + j := by rw [hbs]; simp
              rw [hbs]
              unfold padTo
              congr 2
              omega
            clear hbs
            refine .inl ⟨Nat, fun k => 700 - k, fun k => k ≤ oby.length,
              fun k => ⟨[(2, .one (.c (.ptr 1 0 0))), (3, .one (.c (.ptr 2 0 0))), (4, .one (.c (.ptr 3 0 0))), (6, .one (.c (vI y))), (7, .one (.c (vI (mst h l X [a, b, c, d] y)))), (8, .one (.c (.ptr 4 0 0))), (10, .one (.c (.ptr 5 0 0))), (11, .one (.c (vI ((1 + 1 : Nat) : Int)))), (12, .one (.c (.ptr 7 0 0))),
                  (64, .one (.c (.d (.list 1 (oby.map r1))))), (65, .one (.c (vI (oby.length : Nat)))), (66, .one (.c (vI k)))],
                [(0, .map 4 es2), (0, .box [.d (dI h), .d (dI l), .mp 0 0]), (0, .box [.d (dI a), .d (dI b), .d (dI c), .d (dI d)]), (0, .box [.nilsl, .d (dI 0), .d (dI 0), .d (dI 0), .d (dI 0), .d (dI 0)]), (0, .box [.nilsl, .d (dI 0), .d (dI 0), .d (dI 0), .d (dI 0), .d (dI 0)]),
                  (0, .box [.sl 6 0 1 0 bs.length none, .d (dI s0), .d (dI s1), .d (dI (sumK s2 oby k)), .d (dI s3), .d (dI s4)]), (0, .arr 1 ((addK bs oby k).map r1)), (0, .box [.d (.list 1 (oby.map r1)), .d (dI o0), .d (dI o1), .d (dI o2), .d (dI o3), .d (dI o4)])], _⟩, 0, Nat.zero_le _, weak_of rfl ?_ rfl (Nat.le_of_ble_eq_true rfl), ?_⟩
            · rw [List.length_map]
              (repeat' first | exact rfl | exact trivial | apply And.intro | (simp [getE]; done))
            intro k hk
            replace hk : k ≤ oby.length := hk
            conv => whnf
            refine Br.mk (fun hb3 => ?_) (fun hb3 => ?_) <;> conv => whnf
            · have hkl : k < oby.length := by simp at hb3; omega
              refine ⟨by omega, by simp; omega, ?_⟩
              conv => whnf
              refine El.mk (fun el1 hel1 => ?_)
              obtain ⟨v1, hv1, rfl⟩ := r1_get hel1
              conv => whnf
              have hk1 : IntKind.i64.wrap ((k : Int) + 1) = ((k + 1 : Nat) : Int) := by rw [wrap_i64 _ (by omega) (by omega)]; omega
              rw [hk1]
              refine ⟨by omega, by omega, ?_⟩
              conv => whnf
              have hz : 0 + (((k + 1 : Nat) : Int)).toNat = k + 1 := by simp
              rw [hz]
              refine ⟨by rw [List.length_map, addK_len]; omega, El.mk (fun el2 hel2 => ?_)⟩
              obtain ⟨v2, hv2, rfl⟩ := r1_get hel2
              conv => whnf
              refine ⟨by omega, by omega, ?_⟩
              conv => whnf
              refine ⟨by rw [hz, List.length_map, addK_len]; omega, ?_⟩
              conv => whnf
              repeat (refine ⟨by decide, by decide, ?_⟩; conv => whnf)
              have g1 : oby.getD k 0 = v1 := by
                have := hv1
                simp only [Int.toNat_natCast] at this
                simp [List.getD, this]
              have g2 : (addK bs oby k).getD (k + 1) 0 = v2 := by simp [List.getD, hv2]
              have e3 : sumK s2 oby (k + 1) = IntKind.i64.wrap (sumK s2 oby k + v1) := by rw [← g1]; rfl
              have e4 : (addK bs oby (k + 1)).map r1 = ((addK bs oby k).map r1).set (k + 1) [dI (IntKind.i64.wrap (v2 + v1))] := by
                rw [← g1, ← g2]
                conv => lhs; unfold addK
                rw [List.map_set]
                rfl
              refine ⟨k + 1, (by omega : k + 1 ≤ oby.length), (by omega : 700 - (k + 1) < 700 - k), weak_of ?_ ?_ rfl (Nat.le_of_ble_eq_true rfl)⟩
              · rw [e3, e4, hz]
                rfl
              · rw [hk1]
                (repeat' first | exact rfl | exact trivial | apply And.intro | (simp [getE]; done))
            · have hke : k = oby.length := by simp at hb3; omega
              subst hke
              refine .inr ⟨6, ?_⟩
              conv => whnf
              repeat (refine ⟨by decide, by decide, ?_⟩; conv => whnf)
              refine ⟨(1 + 1, es2, (addK bs oby oby.length, wadd s0 o0, wadd s1 o1, wadd (sumK s2 oby oby.length) o2, wadd s3 o3, wadd s4 o4)), ⟨hlt, hg2, ?_⟩, (by show 5 - (1 + 1) < 5 - 1; omega), weak_of ?_ ?_ rfl (Nat.le_of_ble_eq_true rfl)⟩
              · rw [hPs, ← hP, p4, hbs2]
                rfl
              · dsimp only
                rw [addK_len]
                rfl
              · rw [hw1]
                (repeat' first | exact rfl | exact trivial | apply And.intro | (simp [getE]; done))
        · apply two_step (Pr := GoodY h l)
          · intro key
            refine draw_mkW (by kernel_rfl) ?_
            conv => whnf
            repeat' first
              | (refine call_sn (by repeat' first | exact rfl | exact trivial | apply And.intro) hput ?_; conv => whnf)
              | (refine callX_drop (objs := [(0, .map 4 es1)]) (gs := [(0, .box [.d (dI h), .d (dI l), .mp 0 0]), (0, .box [.d (dI a), .d (dI b), .d (dI c), .d (dI d)]), (0, .box [.nilsl, .d (dI 0), .d (dI 0), .d (dI 0), .d (dI 0), .d (dI 0)]), (0, .box [.nilsl, .d (dI 0), .d (dI 0), .d (dI 0), .d (dI 0), .d (dI 0)]),
                (0, .box [.sl 6 0 1 0 by1.length none, .d (dI s0), .d (dI s1), .d (dI s2), .d (dI s3), .d (dI s4)]), (0, .arr 1 (by1.map r1)), (0, .box [.nilsl, .d (dI 0), .d (dI 0), .d (dI 0), .d (dI 0), .d (dI 0)])]) hrec rfl ?_; rintro _ _ ⟨rfl, es2, gs2, hg2, rfl⟩ _; refine ⟨rfl, ?_⟩; conv => whnf)
              | (refine callX_drop (objs := [(0, .map 4 es1)]) (gs := [(0, .box [.d (dI h), .d (dI l), .mp 0 0]), (0, .box [.d (dI a), .d (dI b), .d (dI c), .d (dI d)]), (0, .box [.nilsl, .d (dI 0), .d (dI 0), .d (dI 0), .d (dI 0), .d (dI 0)]), (0, .box [.nilsl, .d (dI 0), .d (dI 0), .d (dI 0), .d (dI 0), .d (dI 0)]),
                (0, .box [.sl 6 0 1 0 by1.length none, .d (dI s0), .d (dI s1), .d (dI s2), .d (dI s3), .d (dI s4)]), (0, .arr 1 (by1.map r1))]) hrec rfl ?_; rintro _ _ ⟨rfl, es2, gs2, hg2, rfl⟩ _; refine ⟨rfl, ?_⟩; conv => whnf)
              | (refine And.intro ?_ ?_ <;> conv => whnf)
            all_goals
              refine .inl ⟨Nat × List Int, fun x => 700 - x.1, fun x => x.2 = by1 ++ List.replicate x.1 0 ∧ x.2.length ≤ max by1.length (oby.length + 1),
              fun x => ⟨[(2, .one (.c (.ptr 1 0 0))), (3, .one (.c (.ptr 2 0 0))), (4, .one (.c (.ptr 3 0 0))), (6, .one (.c (vI y))), (7, .one (.c (vI (mst h l X [a, b, c, d] y)))), (8, .one (.c (.ptr 4 0 0))), (10, .one (.c (.ptr 5 0 0))), (11, .one (.c (vI ((2 + 1 : Nat) : Int)))), (12, .one (.c (.ptr 7 0 0)))],
                [(0, .map 4 es2), (0, .box [.d (dI h), .d (dI l), .mp 0 0]), (0, .box [.d (dI a), .d (dI b), .d (dI c), .d (dI d)]), (0, .box [.nilsl, .d (dI 0), .d (dI 0), .d (dI 0), .d (dI 0), .d (dI 0)]), (0, .box [.nilsl, .d (dI 0), .d (dI 0), .d (dI 0), .d (dI 0), .d (dI 0)]),
                  (0, .box [.sl 6 0 1 0 x.2.length none, .d (dI s0), .d (dI s1), .d (dI s2), .d (dI s3), .d (dI s4)]), (0, .arr 1 (x.2.map r1)), (0, .box [.d (.list 1 (oby.map r1)), .d (dI o0), .d (dI o1), .d (dI o2), .d (dI o3), .d (dI o4)])], _⟩, (0, by1), ⟨by simp, Nat.le_max_left _ _⟩, weak_of rfl ?_ rfl (Nat.le_of_ble_eq_true rfl), ?_⟩
              · (repeat' first | exact rfl | exact trivial | apply And.intro | (simp [getE]; done))
              exact key es2 hg2
          intro es2 hg2
          dsimp only
          rintro ⟨j, bs⟩ ⟨hbs, hbl⟩
          dsimp only at hbs hbl
          conv => whnf
          refine Br.mk (fun hb2 => ?_) (fun hb2 => ?_) <;> conv => whnf
          · have hlt1 : bs.length ≤ oby.length := by simp at hb2; omega
            refine ⟨Nat.le_refl 1, ?_⟩
            conv => whnf
            refine ⟨by simp, by simp; omega, by simp; omega, ?_⟩
            conv => whnf
            obtain ⟨bs2, hbs2⟩ : ∃ q, q = bs ++ [0] := ⟨_, rfl⟩
            have e1 : bs2.length = bs.length + 1 := by rw [hbs2]; simp
            have e2 : bs2.map r1 = List.take bs.length (List.drop 0 (bs.map r1)) ++ List.take 1 (List.drop 0 ((List.replicate 1 [dI 0]).set 0 [dI 0])) := by
              rw [hbs2]
              simp [r1]
              exact (List.take_of_length_le (by simp)).symm
            have hjl : bs.length = by1.length + j := by rw [hbs]; simp
            refine ⟨(j + 1, bs2), ⟨?_, ?_⟩, (by show 700 - (j + 1) < 700 - j; omega), weak_verof 6 1 0 ?_ ?_ rfl rfl (Nat.le_of_ble_eq_true rfl) (Nat.le_of_ble_eq_true rfl)⟩
            · show bs2 = by1 ++ List.replicate (j + 1) 0
              rw [hbs2, hbs, List.append_assoc, List.replicate_succ']
            · show bs2.length ≤ _
              omega
            · dsimp only
              rw [e1, e2]
              rfl
            · (repeat' first | exact rfl | exact trivial | apply And.intro | (simp [getE]; done))
          · have hge1 : oby.length + 1 ≤ bs.length := by simp at hb2; omega
            have hbs2 : bs = padTo by1 (oby.length + 1) := by
              have hjl : bs.length = by1.length + j := by rw [hbs]; simp
              rw [hbs]
              unfold padTo
              congr 2
              omega
            clear hbs
            refine .inl ⟨Nat, fun k => 700 - k, fun k => k ≤ oby.length,
              fun k => ⟨[(2, .one (.c (.ptr 1 0 0))), (3, .one (.c (.ptr 2 0 0))), (4, .one (.c (.ptr 3 0 0))), (6, .one (.c (vI y))), (7, .one (.c (vI (mst h l X [a, b, c, d] y)))), (8, .one (.c (.ptr 4 0 0))), (10, .one (.c (.ptr 5 0 0))), (11, .one (.c (vI ((2 + 1 : Nat) : Int)))), (12, .one (.c (.ptr 7 0 0))),
                  (64, .one (.c (.d (.list 1 (oby.map r1))))), (65, .one (.c (vI (oby.length : Nat)))), (66, .one (.c (vI k)))],
                [(0, .map 4 es2), (0, .box [.d (dI h), .d (dI l), .mp 0 0]), (0, .box [.d (dI a), .d (dI b), .d (dI c), .d (dI d)]), (0, .box [.nilsl, .d (dI 0), .d (dI 0), .d (dI 0), .d (dI 0), .d (dI 0)]), (0, .box [.nilsl, .d (dI 0), .d (dI 0), .d (dI 0), .d (dI 0), .d (dI 0)]),
                  (0, .box [.sl 6 0 1 0 bs.length none, .d (dI s0), .d (dI s1), .d (dI s2), .d (dI (sumK s3 oby k)), .d (dI s4)]), (0, .arr 1 ((addK bs oby k).map r1)), (0, .box [.d (.list 1 (oby.map r1)), .d (dI o0), .d (dI o1), .d (dI o2), .d (dI o3), .d (dI o4)])], _⟩, 0, Nat.zero_le _, weak_of rfl ?_ rfl (Nat.le_of_ble_eq_true rfl), ?_⟩
            · rw [List.length_map]
              (repeat' first | exact rfl | exact trivial | apply And.intro | (simp [getE]; done))
            intro k hk
            replace hk : k ≤ oby.length := hk
            conv => whnf
            refine Br.mk (fun hb3 => ?_) (fun hb3 => ?_) <;> conv => whnf
            · have hkl : k < oby.length := by simp at hb3; omega
              refine ⟨by omega, by simp; omega, ?_⟩
              conv => whnf
              refine El.mk (fun el1 hel1 => ?_)
              obtain ⟨v1, hv1, rfl⟩ := r1_get hel1
              conv => whnf
              have hk1 : IntKind.i64.wrap ((k : Int) + 1) = ((k + 1 : Nat) : Int) := by rw [wrap_i64 _ (by omega) (by omega)]; omega
              rw [hk1]
              refine ⟨by omega, by omega, ?_⟩
              conv => whnf
              have hz : 0 + (((k + 1 : Nat) : Int)).toNat = k + 1 := by simp
              rw [hz]
              refine ⟨by rw [List.length_map, addK_len]; omega, El.mk (fun el2 hel2 => ?_)⟩
              obtain ⟨v2, hv2, rfl⟩ := r1_get hel2
              conv => whnf
              refine ⟨by omega, by omega, ?_⟩
              conv => whnf
              refine ⟨by rw [hz, List.length_map, addK_len]; omega, ?_⟩
              conv => whnf
              repeat (refine ⟨by decide, by decide, ?_⟩; conv => whnf)
              have g1 : oby.getD k 0 = v1 := by
                have := hv1
                simp only [Int.toNat_natCast] at this
                simp [List.getD, this]
              have g2 : (addK bs oby k).getD (k + 1) 0 = v2 := by simp [List.getD, hv2]
              have e3 : sumK s3 oby (k + 1) = IntKind.i64.wrap (sumK s3 oby k + v1) := by rw [← g1]; rfl
              have e4 : (addK bs oby (k + 1)).map r1 = ((addK bs oby k).map r1).set (k + 1) [dI (IntKind.i64.wrap (v2 + v1))] := by
                rw [← g1, ← g2]
                conv => lhs; unfold addK
                rw [List.map_set]
                rfl
              refine ⟨k + 1, (by omega : k + 1 ≤ oby.length), (by omega : 700 - (k + 1) < 700 - k), weak_of ?_ ?_ rfl (Nat.le_of_ble_eq_true rfl)⟩
              · rw [e3, e4, hz]
                rfl
              · rw [hk1]
                (repeat' first | exact rfl | exact trivial | apply And.intro | (simp [getE]; done))
            · have hke : k = oby.length := by simp at hb3; omega
              subst hke
              refine .inr ⟨6, ?_⟩
              conv => whnf
              repeat (refine ⟨by decide, by decide, ?_⟩; conv => whnf)
              refine ⟨(2 + 1, es2, (addK bs oby oby.length, wadd s0 o0, wadd s1 o1, wadd s2 o2, wadd (sumK s3 oby oby.length) o3, wadd s4 o4)), ⟨hlt, hg2, ?_⟩, (by show 5 - (2 + 1) < 5 - 2; omega), weak_of ?_ ?_ rfl (Nat.le_of_ble_eq_true rfl)⟩
              · rw [hPs, ← hP, p4, hbs2]
                rfl
              · dsimp only
                rw [addK_len]
                rfl
              · rw [hw1]
                (repeat' first | exact rfl | exact trivial | apply And.intro | (simp [getE]; done))
        · apply two_step (Pr := GoodY h l)
          · intro key
            refine draw_mkW (by kernel_rfl) ?_
            conv => whnf
            repeat' first
              | (refine call_sn (by repeat' first | exact rfl | exact trivial | apply And.intro) hput ?_; conv => whnf)
              | (refine callX_drop (objs := [(0, .map 4 es1)]) (gs := [(0, .box [.d (dI h), .d (dI l), .mp 0 0]), (0, .box [.d (dI a), .d (dI b), .d (dI c), .d (dI d)]), (0, .box [.nilsl, .d (dI 0), .d (dI 0), .d (dI 0), .d (dI 0), .d (dI 0)]), (0, .box [.nilsl, .d (dI 0), .d (dI 0), .d (dI 0), .d (dI 0), .d (dI 0)]),
                (0, .box [.sl 6 0 1 0 by1.length none, .d (dI s0), .d (dI s1), .d (dI s2), .d (dI s3), .d (dI s4)]), (0, .arr 1 (by1.map r1)), (0, .box [.nilsl, .d (dI 0), .d (dI 0), .d (dI 0), .d (dI 0), .d (dI 0)])]) hrec rfl ?_; rintro _ _ ⟨rfl, es2, gs2, hg2, rfl⟩ _; refine ⟨rfl, ?_⟩; conv => whnf)
              | (refine callX_drop (objs := [(0, .map 4 es1)]) (gs := [(0, .box [.d (dI h), .d (dI l), .mp 0 0]), (0, .box [.d (dI a), .d (dI b), .d (dI c), .d (dI d)]), (0, .box [.nilsl, .d (dI 0), .d (dI 0), .d (dI 0), .d (dI 0), .d (dI 0)]), (0, .box [.nilsl, .d (dI 0), .d (dI 0), .d (dI 0), .d (dI 0), .d (dI 0)]),
                (0, .box [.sl 6 0 1 0 by1.length none, .d (dI s0), .d (dI s1), .d (dI s2), .d (dI s3), .d (dI s4)]), (0, .arr 1 (by1.map r1))]) hrec rfl ?_; rintro _ _ ⟨rfl, es2, gs2, hg2, rfl⟩ _; refine ⟨rfl, ?_⟩; conv => whnf)
              | (refine And.intro ?_ ?_ <;> conv => whnf)
            all_goals
              refine .inl ⟨Nat × List Int, fun x => 700 - x.1, fun x => x.2 = by1 ++ List.replicate x.1 0 ∧ x.2.length ≤ max by1.length (oby.length + 1),
              fun x => ⟨[(2, .one (.c (.ptr 1 0 0))), (3, .one (.c (.ptr 2 0 0))), (4, .one (.c (.ptr 3 0 0))), (6, .one (.c (vI y))), (7, .one (.c (vI (mst h l X [a, b, c, d] y)))), (8, .one (.c (.ptr 4 0 0))), (10, .one (.c (.ptr 5 0 0))), (11, .one (.c (vI ((3 + 1 : Nat) : Int)))), (12, .one (.c (.ptr 7 0 0)))],
                [(0, .map 4 es2), (0, .box [.d (dI h), .d (dI l), .mp 0 0]), (0, .box [.d (dI a), .d (dI b), .d (dI c), .d (dI d)]), (0, .box [.nilsl, .d (dI 0), .d (dI 0), .d (dI 0), .d (dI 0), .d (dI 0)]), (0, .box [.nilsl, .d (dI 0), .d (dI 0), .d (dI 0), .d (dI 0), .d (dI 0)]),
                  (0, .box [.sl 6 0 1 0 x.2.length none, .d (dI s0), .d (dI s1), .d (dI s2), .d (dI s3), .d (dI s4)]), (0, .arr 1 (x.2.map r1)), (0, .box [.d (.list 1 (oby.map r1)), .d (dI o0), .d (dI o1), .d (dI o2), .d (dI o3), .d (dI o4)])], _⟩, (0, by1), ⟨by simp, Nat.le_max_left _ _⟩, weak_of rfl ?_ rfl (Nat.le_of_ble_eq_true rfl), ?_⟩
              · (repeat' first | exact rfl | exact trivial | apply And.intro | (simp [getE]; done))
              exact key es2 hg2
          intro es2 hg2
          dsimp only
          rintro ⟨j, bs⟩ ⟨hbs, hbl⟩
          dsimp only at hbs hbl
          conv => whnf
          refine Br.mk (fun hb2 => ?_) (fun hb2 => ?_) <;> conv => whnf
          · have hlt1 : bs.length ≤ oby.length := by simp at hb2; omega
            refine ⟨Nat.le_refl 1, ?_⟩
            conv => whnf
            refine ⟨by simp, by simp; omega, by simp; omega, ?_⟩
            conv => whnf
            obtain ⟨bs2, hbs2⟩ : ∃ q, q = bs ++ [0] := ⟨_, rfl⟩
            have e1 : bs2.length = bs.length + 1 := by rw [hbs2]; simp
            have e2 : bs2.map r1 = List.take bs.length (List.drop 0 (bs.map r1)) ++ List.take 1 (List.drop 0 ((List.replicate 1 [dI 0]).set 0 [dI 0])) := by
              rw [hbs2]
              simp [r1]
              exact (List.take_of_length_le (by simp)).symm
            have hjl : bs.length = by1.length + j := by rw [hbs]; simp
            refine ⟨(j + 1, bs2), ⟨?_, ?_⟩, (by show 700 - (j + 1) < 700 - j; omega), weak_verof 6 1 0 ?_ ?_ rfl rfl (Nat.le_of_ble_eq_true rfl) (Nat.le_of_ble_eq_true rfl)⟩
            · show bs2 = by1 ++ List.replicate (j + 1) 0
              rw [hbs2, hbs, List.append_assoc, List.replicate_succ']
            · show bs2.length ≤ _
              omega
            · dsimp only
              rw [e1, e2]
              rfl
            · (repeat' first | exact rfl | exact trivial | apply And.intro | (simp [getE]; done))
          · have hge1 : oby.length + 1 ≤ bs.length := by simp at hb2; omega
            have hbs2 : bs = padTo by1 (oby.length + 1) := by
              have hjl : bs.length = by1.length + j := by rw [hbs]; simp
              rw [hbs]
              unfold padTo
              congr 2
              omega
            clear hbs
            refine .inl ⟨Nat, fun k => 700 - k, fun k => k ≤ oby.length,
              fun k => ⟨[(2, .one (.c (.ptr 1 0 0))), (3, .one (.c (.ptr 2 0 0))), (4, .one (.c (.ptr 3 0 0))), (6, .one (.c (vI y))), (7, .one (.c (vI (mst h l X [a, b, c, d] y)))), (8, .one (.c (.ptr 4 0 0))), (10, .one (.c (.ptr 5 0 0))), (11, .one (.c (vI ((3 + 1 : Nat) : Int)))), (12, .one (.c (.ptr 7 0 0))),
                  (64, .one (.c (.d (.list 1 (oby.map r1))))), (65, .one (.c (vI (oby.length : Nat)))), (66, .one (.c (vI k)))],
                [(0, .map 4 es2), (0, .box [.d (dI h), .d (dI l), .mp 0 0]), (0, .box [.d (dI a), .d (dI b), .d (dI c), .d (dI d)]), (0, .box [.nilsl, .d (dI 0), .d (dI 0), .d (dI 0), .d (dI 0), .d (dI 0)]), (0, .box [.nilsl, .d (dI 0), .d (dI 0), .d (dI 0), .d (dI 0), .d (dI 0)]),
                  (0, .box [.sl 6 0 1 0 bs.length none, .d (dI s0), .d (dI s1), .d (dI s2), .d (dI s3), .d (dI (sumK s4 oby k))]), (0, .arr 1 ((addK bs oby k).map r1)), (0, .box [.d (.list 1 (oby.map r1)), .d (dI o0), .d (dI o1), .d (dI o2), .d (dI o3), .d (dI o4)])], _⟩, 0, Nat.zero_le _, weak_of rfl ?_ rfl (Nat.le_of_ble_eq_true rfl), ?_⟩
            · rw [List.length_map]
              (repeat' first | exact rfl | exact trivial | apply And.intro | (simp [getE]; done))
            intro k hk
            replace hk : k ≤ oby.length := hk
            conv => whnf
            refine Br.mk (fun hb3 => ?_) (fun hb3 => ?_) <;> conv => whnf
            · have hkl : k < oby.length := by simp at hb3; omega
              refine ⟨by omega, by simp; omega, ?_⟩
              conv => whnf
              refine El.mk (fun el1 hel1 => ?_)
              obtain ⟨v1, hv1, rfl⟩ := r1_get hel1
              conv => whnf
              have hk1 : IntKind.i64.wrap ((k : Int) + 1) = ((k + 1 : Nat) : Int) := by rw [wrap_i64 _ (by omega) (by omega)]; omega
              rw [hk1]
              refine ⟨by omega, by omega, ?_⟩
              conv => whnf
              have hz : 0 + (((k + 1 : Nat) : Int)).toNat = k + 1 := by simp
              rw [hz]
              refine ⟨by rw [List.length_map, addK_len]; omega, El.mk (fun el2 hel2 => ?_)⟩
              obtain ⟨v2, hv2, rfl⟩ := r1_get hel2
              conv => whnf
              refine ⟨by omega, by omega, ?_⟩
              conv => whnf
              refine ⟨by rw [hz, List.length_map, addK_len]; omega, ?_⟩
              conv => whnf
              repeat (refine ⟨by decide, by decide, ?_⟩; conv => whnf)
              have g1 : oby.getD k 0 = v1 := by
                have := hv1
                simp only [Int.toNat_natCast] at this
                simp [List.getD, this]
              have g2 : (addK bs oby k).getD (k + 1) 0 = v2 := by simp [List.getD, hv2]
              have e3 : sumK s4 oby (k + 1) = IntKind.i64.wrap (sumK s4 oby k + v1) := by rw [← g1]; rfl
              have e4 : (addK bs oby (k + 1)).map r1 = ((addK bs oby k).map r1).set (k + 1) [dI (IntKind.i64.wrap (v2 + v1))] := by
                rw [← g1, ← g2]
                conv => lhs; unfold addK
                rw [List.map_set]
                rfl
              refine ⟨k + 1, (by omega : k + 1 ≤ oby.length), (by omega : 700 - (k + 1) < 700 - k), weak_of ?_ ?_ rfl (Nat.le_of_ble_eq_true rfl)⟩
              · rw [e3, e4, hz]
                rfl
              · rw [hk1]
                (repeat' first | exact rfl | exact trivial | apply And.intro | (simp [getE]; done))
            · have hke : k = oby.length := by simp at hb3; omega
              subst hke
              refine .inr ⟨6, ?_⟩
              conv => whnf
              repeat (refine ⟨by decide, by decide, ?_⟩; conv => whnf)
              refine ⟨(3 + 1, es2, (addK bs oby oby.length, wadd s0 o0, wadd s1 o1, wadd s2 o2, wadd s3 o3, wadd (sumK s4 oby oby.length) o4)), ⟨hlt, hg2, ?_⟩, (by show 5 - (3 + 1) < 5 - 3; omega), weak_of ?_ ?_ rfl (Nat.le_of_ble_eq_true rfl)⟩
              · rw [hPs, ← hP, p4, hbs2]
                rfl
              · dsimp only
                rw [addK_len]
                rfl
              · rw [hw1]
                (repeat' first | exact rfl | exact trivial | apply And.intro | (simp [getE]; done))
      · have hie : i = mst h l X [a, b, c, d] y := by simp at hb; omega
        have hval := Es_part oneT zeroT stepT hh.2 hl (by omega) hat hy
        rw [← hie, ← hP, ← Tw_eq] at hval
        have hT0 : List.take by1.length (List.drop 0 (by1.map r1)) = by1.map r1 := List.take_of_length_le (by simp)
        refine ⟨⟨(by show 0 + by1.length ≤ (by1.map r1).length; simp), ?_⟩, ?_⟩
        · (repeat' first | exact rfl | exact trivial | apply And.intro | (simp [getE]; done))
        conv => whnf
        refine ⟨⟨rfl, by simp; have h0 := hat.small 0; have h1 := hat.small 1; have h2 := hat.small 2; have h3 := hat.small 3; simp at h0 h1 h2 h3; omega⟩, ?_⟩
        conv => whnf
        rw [hT0]
        refine ⟨_, _, _, rfl, ⟨(by show 0 + by1.length ≤ (by1.map r1).length; simp), ?_⟩, rfl, ?_, updM es1 [(a : Int), (b : Int), (c : Int), (d : Int)] (tDV (by1, s0, s1, s2, s3, s4)), _, ?_, rfl⟩
        · (repeat' first | exact rfl | exact trivial | apply And.intro | (simp [getE]; done))
        · rw [hval, hT0]
          rfl
        intro a1 b1 c1 d1 X1 st1 w1 hat1 hX1 hl1
        rw [lookup_upd] at hl1
        split at hl1
        · rename_i hkk
          simp only [List.cons.injEq, and_true] at hkk
          obtain ⟨k1, k2, k3, k4⟩ := hkk
          obtain rfl : a1 = a := by omega
          obtain rfl : b1 = b := by omega
          obtain rfl : c1 = c := by omega
          obtain rfl : d1 = d := by omega
          obtain ⟨rfl, rfl⟩ := At.unique hh.2 hat1 hat
          obtain rfl := Option.some.inj hl1
          rw [hval]
        · exact hg1 a1 b1 c1 d1 X1 st1 w1 hat1 hX1 hl1

end Go.Proofs.Ytmfdkjjhdjkgpaa
